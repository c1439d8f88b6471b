/- Comparisons and sums, strings, slices of slices, interface values, function values, tuples, maps. -/
import Derived.Test.YtknocbhocdenoaaGreatDoorAwG
import Derived.WalkLawsBesides
import Derived.LaidEql
import Derived.WideLaws
namespace Go.Proofs.YtknocbhocdenoaaGreatDoor
open Go Go.RowKit

/-! ### Operators -/
def binInt (op : BinOp) (k : IntKind) (a b : Int) : Option Value :=
  match op with
  | .eql => some (.bool (a == b))
  | .neq => some (.bool (a != b))
  | .lss => some (.bool (decide (a < b)))
  | .leq => some (.bool (decide (a ≤ b)))
  | .gtr => some (.bool (decide (a > b)))
  | .geq => some (.bool (decide (a ≥ b)))
  | .add => some (.int k (k.wrap (a + b)))
  | .sub => some (.int k (k.wrap (a - b)))
  | .mul => some (.int k (k.wrap (a * b)))
  | .quo => if b = 0 then none else some (.int k (k.wrap (a.tdiv b)))
  | .rem => if b = 0 then none else some (.int k (a.tmod b))
  | _ => none
def binStr (op : BinOp) (a b : ByteArray) : Option Value :=
  match op with
  | .eql => some (.bool (a.toList == b.toList))
  | .neq => some (.bool (!(a.toList == b.toList)))
  | .lss => some (.bool (Op.bytesLess a.toList b.toList))
  | .add => if a.size + b.size ≤ 9223372036854775807 then some (.string (a ++ b)) else none
  | _ => none
def isIface (P : Program) (t : TypeId) : Bool := match P.underlying t with | some (.interface _) => true | _ => false
def isPtr (P : Program) (t : TypeId) : Bool := match P.underlying t with | some (.pointer _) => true | _ => false
def isStr (P : Program) (t : TypeId) : Bool := match P.underlying t with | some .string => true | _ => false
def isBool (P : Program) (t : TypeId) : Bool := match P.underlying t with | some .bool => true | _ => false
/-- An integer's type that may be compared within an interface value. -/
def cmpInt (P : Program) (t : TypeId) : Bool := match P.underlying t, P.info? t with | some (.int _), some i => i.comparable | _, _ => false
inductive EK where
  | int | str | bool
/-- A struct's type whose fields are plain: where they lie. -/
def eqI (P : Program) (t : TypeId) : Option (List (Nat × EK)) :=
  match P.underlying t with
  | some (.struct fs) =>
    if P.stoodInHeld t = false ∧ P.eqGuardType P.depth t = false then
      fs.toList.mapM fun f => if f.name = "_" then none else match P.underlying f.type with
        | some (.int _) => some (f.offset, EK.int)
        | some .string => some (f.offset, EK.str)
        | some .bool => some (f.offset, EK.bool)
        | _ => none
    else none
  | _ => none
def eqCell : EK → AV → AV → Option Bool
  | .int, .val (.int k a), .val (.int k' b) => if k = k' then some (a == b) else none
  | .str, .val (.string a), .val (.string b) => some (a.toList == b.toList)
  | .bool, .val (.bool a), .val (.bool b) => some (a == b)
  | _, _, _ => none
theorem eqCell_int {c d : AV} {x : Bool} (h : eqCell .int c d = some x) : ∃ k a b, c = .val (.int k a) ∧ d = .val (.int k b) ∧ x = (a == b) := by
  unfold eqCell at h
  split at h
  · rename_i k a k' b _
    split at h
    · rename_i hk
      subst hk; cases h; exact ⟨_, _, _, rfl, rfl, rfl⟩
    · cases h
  · rename_i he; cases he
  · rename_i he; cases he
  · cases h
theorem eqCell_str {c d : AV} {x : Bool} (h : eqCell .str c d = some x) : ∃ a b, c = .val (.string a) ∧ d = .val (.string b) ∧ x = (a.toList == b.toList) := by
  unfold eqCell at h
  split at h
  · rename_i he; cases he
  · cases h; exact ⟨_, _, rfl, rfl, rfl⟩
  · rename_i he; cases he
  · cases h
theorem eqCell_bool {c d : AV} {x : Bool} (h : eqCell .bool c d = some x) : ∃ a b, c = .val (.bool a) ∧ d = .val (.bool b) ∧ x = (a == b) := by
  unfold eqCell at h
  split at h
  · rename_i he; cases he
  · rename_i he; cases he
  · cases h; exact ⟨_, _, rfl, rfl, rfl⟩
  · cases h
def eqCells : List (Nat × EK) → List AV → List AV → Option Bool
  | [], _, _ => some true
  | (o, k) :: r, cs, ds =>
    match cs[o]?, ds[o]? with
    | some c, some d => match eqCell k c d, eqCells r cs ds with
      | some x, some y => some (x && y)
      | _, _ => none
    | _, _ => none
def boolV (op : BinOp) (b : Bool) : Option AV :=
  match op with
  | .eql => some (.val (.bool b))
  | .neq => some (.val (.bool (!b)))
  | _ => none
def binF (P : Program) (op : BinOp) (t : TypeId) (x y : AV) : Option AV :=
  match x, y with
  | .val (.int k a), .val (.int k' b) => if k = k' then (binInt op k a b).map .val else none
  | .val (.string a), .val (.string b) => (binStr op a b).map .val
  | .val (.bool a), .val (.bool b) => if isBool P t = true then boolV op (a == b) else none
  | .iface _ _, .val .nilIface => if isIface P t = true then boolV op false else none
  | .iface t1 a, .iface t2 b => if isIface P t = true then
      if t1 = t2 then match a, b with
        | .val (.int k i), .val (.int k' j) => if k = k' ∧ cmpInt P t1 = true then boolV op (i == j) else none
        | _, _ => none
      else boolV op false
    else none
  | .ptr _ _, .val (.pointer none) => if isPtr P t = true then boolV op false else none
  | .rptr _ _, .val (.pointer none) => if isPtr P t = true then boolV op false else none
  | .agg cs, .agg ds => match eqI P t with
    | some l => match eqCells l cs ds with | some b => boolV op b | none => none
    | none => none
  | _, _ => none

theorem isIface_inv {P : Program} {t : TypeId} (h : isIface P t = true) : ∃ ms, P.underlying t = some (.interface ms) := by
  unfold isIface at h; split at h
  · rename_i ms hu; exact ⟨ms, hu⟩
  · cases h
theorem isPtr_inv {P : Program} {t : TypeId} (h : isPtr P t = true) : ∃ e, P.underlying t = some (.pointer e) := by
  unfold isPtr at h; split at h
  · rename_i ms hu; exact ⟨ms, hu⟩
  · cases h
theorem isStr_inv {P : Program} {t : TypeId} (h : isStr P t = true) : P.underlying t = some .string := by
  unfold isStr at h; split at h
  · rename_i hu; exact hu
  · cases h
theorem isBool_inv {P : Program} {t : TypeId} (h : isBool P t = true) : P.underlying t = some .bool := by
  unfold isBool at h; split at h
  · rename_i hu; exact hu
  · cases h
theorem binOp_eq_run {P : Program} {w : World} {op : BinOp} {t : TypeId} {x y : Value} {b : Bool} {r : AV} (hr : boolV op b = some r)
    (hb : ∀ o : BinOp, (o = .eql ∨ o = .neq) → binOp o t x y = (match o with | .eql => (do pure (.bool (← Op.equal t x y))) | _ => (do pure (.bool (!(← Op.equal t x y))))))
    (he : (Op.equal t x y).run P w = .ok b w) : ∃ u, (binOp op t x y).run P w = .ok u w ∧ r = .val u := by
  unfold boolV at hr
  split at hr
  · cases hr
    refine ⟨_, ?_, rfl⟩
    rw [hb _ (.inl rfl)]; simp [he]
  · cases hr
    refine ⟨_, ?_, rfl⟩
    rw [hb _ (.inr rfl)]; simp [he]
  · cases hr
theorem eqCells_run {P : Program} {w : World} (d : Nat) {S : Sit} : ∀ {fs : List Field} {l : List (Nat × EK)} {cs ds : List AV} {xs ys : Array Value} {b : Bool},
    (fs.mapM fun f => if f.name = "_" then none else match P.underlying f.type with
        | some (.int _) => some (f.offset, EK.int)
        | some .string => some (f.offset, EK.str)
        | some .bool => some (f.offset, EK.bool)
        | _ => none : Option (List (Nat × EK))) = some l → eqCells l cs ds = some b → Rels S cs xs.toList → Rels S ds ys.toList → (Op.eqFields (d + 1) xs ys fs).run P w = .ok b w
  | [], l, cs, ds, xs, ys, b, hl, h, hx, hy => by
    simp at hl; subst hl
    cases h
    rfl
  | f :: fs, l, cs, ds, xs, ys, b, hl, h, hx, hy => by
    rw [List.mapM_cons] at hl
    simp only [Option.bind_eq_bind, Option.pure_def, Option.bind_eq_some_iff] at hl
    obtain ⟨p, hp, l', hl', e⟩ := hl
    cases e
    obtain ⟨o, k⟩ := p
    simp only [eqCells] at h
    split at h
    · rename_i c dd hc hd
      split at h
      · rename_i x y he hr
        cases h
        have ih := eqCells_run (P := P) (w := w) d hl' hr hx hy
        obtain ⟨u, hu, hcu⟩ := hx.get hc
        obtain ⟨v, hv, hdv⟩ := hy.get hd
        have hxu : xs[o]? = some u := by simpa using hu
        have hyv : ys[o]? = some v := by simpa using hv
        have main : f.name ≠ "_" ∧ f.offset = o ∧ (part f.type xs f.offset).run P w = .ok u w ∧ (part f.type ys f.offset).run P w = .ok v w ∧ (Op.equalIn (d + 1) f.type u v).run P w = .ok x w := by
          split at hp
          · cases hp
          · rename_i hnm
            refine ⟨hnm, ?_⟩
            split at hp
            · rename_i kk hu'
              cases hp
              have hag : (isAgg f.type).run P w = .ok false w := by simp [isAgg, run_underlying hu']
              refine ⟨rfl, by simp [part, hag, hxu], by simp [part, hag, hyv], ?_⟩
              obtain ⟨k1, a1, b1, rfl, rfl, rfl⟩ := eqCell_int he
              rw [val_inv hcu, val_inv hdv]
              exact run_equalIn_int w d _ _ kk _ _ hu'
            · rename_i hu'
              cases hp
              have hag : (isAgg f.type).run P w = .ok false w := by simp [isAgg, run_underlying hu']
              refine ⟨rfl, by simp [part, hag, hxu], by simp [part, hag, hyv], ?_⟩
              obtain ⟨a1, b1, rfl, rfl, rfl⟩ := eqCell_str he
              rw [val_inv hcu, val_inv hdv]
              exact run_equalIn_string w d _ _ _ hu'
            · rename_i hu'
              cases hp
              have hag : (isAgg f.type).run P w = .ok false w := by simp [isAgg, run_underlying hu']
              refine ⟨rfl, by simp [part, hag, hxu], by simp [part, hag, hyv], ?_⟩
              obtain ⟨a1, b1, rfl, rfl, rfl⟩ := eqCell_bool he
              rw [val_inv hcu, val_inv hdv]
              exact run_equalIn_bool' w d _ _ _ hu'
            · cases hp
        obtain ⟨m1, m2, m3, m4, m5⟩ := main
        simp only [Op.eqFields, if_pos m1, Sem.run_bind, m3, m4, m5, Result.andThen_ok]
        cases x
        · rfl
        · simp only [Bool.not_true, Bool.false_eq_true, if_false, Bool.true_and]; exact ih
      · cases h
    · cases h

theorem bin_ok {P : Program} {o : Oper} {op : BinOp} {t ty : TypeId} {x y : Operand} (ho : o.op = .binOp op t x y ty) {fr : Fr} {a b r : AV} (ha : fr.ev x = .v a) (hb : fr.ev y = .v b) (h : binF P op t a b = some r) : Qt P o fr (.v r) := by
  intro B S β act hi
  have main : ∀ w : World, ∃ u, (execOp act.eval o).run P w = .ok (.value u) w ∧ r = .val u := by
   intro w
   have hx := hi.ev x
   have hy := hi.ev y
   rw [ha] at hx
   rw [hb] at hy
   have hx' : VRel S a (act.eval x) := hx
   have hy' : VRel S b (act.eval y) := hy
   clear hx hy
   have fin : ∀ {u : Value}, (eqGuard op t x y (act.eval x) (act.eval y)).run P w = .ok () w → (binOp op t (act.eval x) (act.eval y)).run P w = .ok u w → (execOp act.eval o).run P w = .ok (.value u) w := by
     intro u h1 h2
     simp [execOp, ho, h1, h2]
   generalize act.eval x = vx at hx' fin
   generalize act.eval y = vy at hy' fin
   unfold binF at h
   split at h
   · rename_i k i k' j
     split at h
     · rename_i hk
       subst hk
       cases hx'; cases hy'
       rw [Option.map_eq_some_iff] at h
       obtain ⟨u, hu, rfl⟩ := h
       refine ⟨u, fin (by rw [eqGuard_at_int]; rfl) ?_, rfl⟩
       unfold binInt at hu
       split at hu <;> first
         | (cases hu; simp [binOp, Op.intCmp, Op.intArith]; done)
         | (split at hu
            · cases hu
            · rename_i hb0; cases hu; simp [binOp, Op.intDiv, hb0])
         | cases hu
     · cases h
   · rename_i s1 s2
     cases hx'; cases hy'
     rw [Option.map_eq_some_iff] at h
     obtain ⟨u, hu, rfl⟩ := h
     refine ⟨u, fin (by rw [eqGuard_at_string]; rfl) ?_, rfl⟩
     unfold binStr at hu
     split at hu <;> first
       | (cases hu; simp [binOp, Op.stringOp]; done)
       | (split at hu
          · rename_i hsz
            cases hu
            have hng : ¬ (((s1.size + s2.size : Nat) : Int) > IntKind.i64.max) := by rw [IntKind.max_i64]; omega
            simp only [binOp, Op.stringOp, if_neg hng]; rfl
          · cases hu)
       | cases hu
   · split at h
     · rename_i hbt
       cases hx'; cases hy'
       obtain ⟨u, h1, h2⟩ := binOp_eq_run (P := P) (w := w) (t := t) (x := .bool _) (y := .bool _) h (fun o ho => by rcases ho with rfl | rfl <;> rfl)
         (by simp only [Op.equal, Op.maxDepth]; exact run_equalIn_bool' w 9999 t _ _ (isBool_inv hbt))
       exact ⟨u, fin (by rw [eqGuard_at_bool]; rfl) h1, h2⟩
     · cases h
   · split at h
     · rename_i hif
       obtain ⟨ms, hms⟩ := isIface_inv hif
       rename_i tt aa
       cases hx' with
       | iface _ _ vv hvv =>
       cases hy'
       obtain ⟨u, h1, h2⟩ := binOp_eq_run (P := P) (w := w) (t := t) (x := .iface _ vv) (y := .nilIface) h (fun o ho => by rcases ho with rfl | rfl <;> rfl) (by
           have hE : ∀ d : Nat, (Op.equalIn (d + 1) t (.iface tt vv) .nilIface).run P w = .ok false w := fun d => by simp [Op.equalIn, run_underlying hms]
           exact hE 9999)
       exact ⟨u, fin (by rw [eqGuard_at_iface]; rfl) h1, h2⟩
     · cases h
   · split at h
     · rename_i hif
       obtain ⟨ms, hms⟩ := isIface_inv hif
       rename_i t1 aa t2 bb
       cases hx' with
       | iface _ _ vv hvv =>
       cases hy' with
       | iface _ _ ww hww =>
       split at h
       · rename_i ht
         subst ht
         split at h
         · rename_i k1 i1 k2 j1
           split at h
           · rename_i hk
             obtain ⟨hk, hcm⟩ := hk
             subst hk
             cases hvv; cases hww
             unfold cmpInt at hcm
             split at hcm
             · rename_i kk inf hu hinf
               obtain ⟨u, h1, h2⟩ := binOp_eq_run (P := P) (w := w) (t := t) (x := .iface t1 (.int k1 i1)) (y := .iface t1 (.int k1 j1)) h (fun o ho => by rcases ho with rfl | rfl <;> rfl)
                 (by
                   have hE : ∀ (d : Nat) (k : IntKind) (i j : Int), (Op.equalIn (d + 2) t (.iface t1 (.int k i)) (.iface t1 (.int k j))).run P w = .ok (i == j) w := fun d k i j => by
                     have h1 := run_equalIn_int w d t1 k kk i j hu
                     rw [show d + 2 = (d + 1) + 1 from rfl, Op.equalIn]
                     simp only [Sem.run_bind, run_underlying hms, Result.andThen_ok, ne_eq, not_true_eq_false, if_false, run_info hinf, hcm, Bool.not_true, Bool.false_eq_true]
                     exact h1
                   exact hE 9998 k1 i1 j1)
               exact ⟨u, fin (by rw [eqGuard_at_iface]; rfl) h1, h2⟩
             · cases hcm
           · cases h
         · cases h
       · rename_i ht
         obtain ⟨u, h1, h2⟩ := binOp_eq_run (P := P) (w := w) (t := t) (x := .iface t1 vv) (y := .iface t2 ww) h (fun o ho => by rcases ho with rfl | rfl <;> rfl) (by
             have hE : ∀ d : Nat, (Op.equalIn (d + 1) t (.iface t1 vv) (.iface t2 ww)).run P w = .ok false w := fun d => by simp [Op.equalIn, run_underlying hms, ht]
             exact hE 9999)
         exact ⟨u, fin (by rw [eqGuard_at_iface]; rfl) h1, h2⟩
     · cases h
   · split at h
     · rename_i hpt
       obtain ⟨e, he⟩ := isPtr_inv hpt
       cases hx'; cases hy'
       have hE : ∀ (ad : Addr) (d : Nat), (Op.equalIn (d + 1) t (.pointer (some ad)) (.pointer none)).run P w = .ok false w := fun ad d => by simp [Op.equalIn, run_underlying he]
       obtain ⟨u, h1, h2⟩ := binOp_eq_run (P := P) (w := w) (t := t) (x := .pointer (some _)) (y := .pointer none) h (fun o ho => by rcases ho with rfl | rfl <;> rfl) (hE _ 9999)
       exact ⟨u, fin (by rw [eqGuard_at_pointer]; rfl) h1, h2⟩
     · cases h
   · split at h
     · rename_i hpt
       obtain ⟨e, he⟩ := isPtr_inv hpt
       cases hx'; cases hy'
       have hE : ∀ (ad : Addr) (d : Nat), (Op.equalIn (d + 1) t (.pointer (some ad)) (.pointer none)).run P w = .ok false w := fun ad d => by simp [Op.equalIn, run_underlying he]
       obtain ⟨u, h1, h2⟩ := binOp_eq_run (P := P) (w := w) (t := t) (x := .pointer (some _)) (y := .pointer none) h (fun o ho => by rcases ho with rfl | rfl <;> rfl) (hE _ 9999)
       exact ⟨u, fin (by rw [eqGuard_at_pointer]; rfl) h1, h2⟩
     · cases h
   · rename_i cs ds
     split at h
     · rename_i l hl
       split at h
       · rename_i b hbb
         cases hx' with
         | agg _ xs hxl hxr =>
         cases hy' with
         | agg _ ys hyl hyr =>
         unfold eqI at hl
         split at hl
         · rename_i fs hu
           split at hl
           · rename_i hc
             have hf : P.fieldsOf t = fs := by simp [Program.fieldsOf, hu]
             have hr := eqCells_run (P := P) (w := w) 9998 hl hbb (S := S) (xs := xs) (ys := ys) ⟨by simpa using hxl, fun j b u hb hu => hxr j b u hb (by simpa using hu)⟩ ⟨by simpa using hyl, fun j b u hb hu => hyr j b u hb (by simpa using hu)⟩
             have hs := run_equalIn_struct (P := P) w 9999 t xs ys (by rw [hf]; exact hu) hc.1
             rw [hf] at hs
             obtain ⟨u, h1, h2⟩ := binOp_eq_run (P := P) (w := w) (t := t) (x := .agg xs) (y := .agg ys) h (fun o ho => by rcases ho with rfl | rfl <;> rfl) (by simp only [Op.equal, Op.maxDepth]; exact hs.trans hr)
             exact ⟨u, fin (run_eqGuard_agg w op t x y xs ys hc.2) h1, h2⟩
           · cases hl
         · cases hl
       · cases h
     · cases h
   · cases h
  obtain ⟨u, _, hr⟩ := main default
  refine ⟨u, fun w => ?_, by rw [hr]; exact .val _⟩
  obtain ⟨u', h1, h2⟩ := main w
  rw [hr] at h2; cases h2; exact h1
end Go.Proofs.YtknocbhocdenoaaGreatDoor
