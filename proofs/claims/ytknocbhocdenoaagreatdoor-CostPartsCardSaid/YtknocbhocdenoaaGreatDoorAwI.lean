/- The other operations; and all of them under one name. -/
import Derived.Test.YtknocbhocdenoaaGreatDoorAwH
import Derived.Stop.Asserts
namespace Go.Proofs.YtknocbhocdenoaaGreatDoor
open Go Go.RowKit

/-- A string's byte. -/
def bt (s : ByteArray) (i : Nat) : Int := ((s[i]?).getD 0).toNat
def indexF (P : Program) (t : TypeId) (x i : AV) : Option AV :=
  match x, i with
  | .val (.string s), .val (.int _ i) => if isStr P t = true ∧ 0 ≤ i ∧ i < s.size then some (.val (.int .u8 (bt s i.toNat))) else none
  | _, _ => none
def optInt : Option AV → Option (Option Int)
  | none => some none
  | some (.val (.int _ i)) => some (some i)
  | _ => none
def sliceF (P : Program) (t : TypeId) (x : AV) (lo hi : Option AV) : Option AV :=
  match x, optInt lo, optInt hi with
  | .val (.string s), some l, some h =>
    if isStr P t = true ∧ 0 ≤ l.getD 0 ∧ l.getD 0 ≤ h.getD s.size ∧ h.getD s.size ≤ s.size then some (.val (.string (s.extract (l.getD 0).toNat (h.getD s.size).toNat))) else none
  | .slice _ cells n, some l, some h =>
    match elemOfF P t with
    | some (none, sz) => if cells.length = n * sz ∧ 0 ≤ l.getD 0 ∧ l.getD 0 ≤ h.getD n ∧ h.getD n ≤ n then
        some (.slice .ro ((cells.drop ((l.getD 0).toNat * sz)).take (((h.getD n).toNat - (l.getD 0).toNat) * sz)) ((h.getD n).toNat - (l.getD 0).toNat)) else none
    | _ => none
  | .osl i off n c, some l, some h =>
    match elemOfF P t with
    | some (none, sz) => if 0 ≤ l.getD 0 ∧ l.getD 0 ≤ h.getD n ∧ h.getD n ≤ n ∧ n ≤ c then
        some (.osl i (if c = (l.getD 0).toNat then off else off + (l.getD 0).toNat * sz) ((h.getD n).toNat - (l.getD 0).toNat) (c - (l.getD 0).toNat)) else none
    | _ => none
  | _, _, _ => none
def lenF (P : Program) (t : TypeId) (x : AV) : Option AV :=
  match x with
  | .val (.string s) => if isStr P t = true then some (.val (.int .i64 s.size)) else none
  | .slice _ _ n => match elemOfF P t with
    | some (none, _) => some (.val (.int .i64 n))
    | _ => none
  | .osl _ _ n _ => match elemOfF P t with
    | some (none, _) => some (.val (.int .i64 n))
    | _ => none
  | _ => none
def fieldT (P : Program) (s : TypeId) (f : Nat) : Option (Nat × Bool × Nat) :=
  match P.underlying s with
  | some (.struct fs) => match fs[f]? with
    | some fl => match shp P fl.type with | some (g, n) => some (fl.offset, g, n) | none => none
    | none => none
  | _ => none
def fieldF (P : Program) (s : TypeId) (x : AV) (f : Nat) : Option AV :=
  match x, fieldT P s f with
  | .agg cs, some (off, true, n) => if off + n ≤ cs.length then some (.agg ((cs.drop off).take n)) else none
  | .agg cs, some (off, false, _) => cs[off]?
  | _, _ => none
def zeroV (P : Program) (t : TypeId) : Option AV :=
  match P.info? t with
  | some i => match i.zero with | some z => some (.of z) | none => none
  | none => none
def concr (P : Program) (t : TypeId) : Bool := P.concrete t
def assertF (P : Program) (x : AV) (t : TypeId) (ok : Bool) : Option AV :=
  if concr P t = true then
    match x, ok with
    | .iface u a, true => if u = t then some (.tuple [a, .val (.bool true)]) else (zeroV P t).map fun z => .tuple [z, .val (.bool false)]
    | .iface u a, false => if u = t then some a else none
    | .val .nilIface, true => (zeroV P t).map fun z => .tuple [z, .val (.bool false)]
    | _, _ => none
  else match P.underlying t, x, ok with
    | some (.interface want), .iface u a, true => match P.info? u with
      | some i => match lacking want i.methods with
        | [] => some (.tuple [.iface u a, .val (.bool true)])
        | _ :: _ => (zeroV P t).map fun z => .tuple [z, .val (.bool false)]
      | none => none
    | _, _, _ => none
theorem bt_get (s : ByteArray) (i : Nat) (h : i < s.size) : bt s i = ((s[i]'h).toNat : Int) := by
  simp [bt, ByteArray.getElem?_lt' s i h]
theorem index_ok {P : Program} {o : Oper} {t : TypeId} {x i : Operand} (ho : o.op = .index t x i) {fr : Fr} {st : St} {a b r : AV} (ha : fr.ev x = .v a) (hb : fr.ev i = .v b) (h : indexF P t a b = some r) : OpOk P o fr st (.v r) fr st := by
  refine OpOk.value fun S0 S β act hi => ?_
  have hx := hi.fr.ev x
  have hy := hi.fr.ev i
  rw [ha] at hx
  rw [hb] at hy
  unfold indexF at h
  split at h
  · rename_i s k j
    split at h
    · rename_i hc
      obtain ⟨h1, h2, h3⟩ := hc
      cases h
      have e1 := val_inv hx
      have e2 := val_inv hy
      refine ⟨_, ?_, .val _⟩
      have hr := run_index_string (P := P) S.w t s k j (isStr_inv h1)
      rw [dif_pos ⟨h2, h3⟩] at hr
      simp [execOp, ho, e1, e2, hr, bt_get s j.toNat (by omega)]
    · cases h
  · cases h

/-- A bound's value. -/
theorem bound_ev {β : Nat → Nat} {S : Sit} {fr : Fr} {B : Nat} {act : Act} (hf : FrOk B S β fr act) {x : Operand} {a : AV} (ha : fr.ev x = .v a) {i : Option Int} (h : optInt (some a) = some i) : ∃ k j, i = some j ∧ act.eval x = .int k j := by
  have hx := hf.ev x
  rw [ha] at hx
  unfold optInt at h
  split at h
  · rename_i e; cases e
  · rename_i k j e
    cases e
    cases h
    exact ⟨k, j, rfl, val_inv hx⟩
  · cases h
def evO (fr : Fr) : Option Operand → Option (Option AV)
  | none => some none
  | some x => match fr.ev x with | .v a => some (some a) | _ => none
theorem optInt_ev {β : Nat → Nat} {S : Sit} {fr : Fr} {B : Nat} {act : Act} (hf : FrOk B S β fr act) {x : Option Operand} {a : Option AV} (ha : evO fr x = some a) {i : Option Int} (h : optInt a = some i) :
    (x.map act.eval = none ∧ i = none) ∨ ∃ k j, x.map act.eval = some (.int k j) ∧ i = some j := by
  cases x with
  | none => cases ha; cases h; exact .inl ⟨rfl, rfl⟩
  | some x =>
    simp only [evO] at ha
    split at ha
    · rename_i av hav
      cases ha
      obtain ⟨k, j, rfl, he⟩ := bound_ev hf hav h
      exact .inr ⟨k, j, by simp [he], rfl⟩
    · cases ha
theorem bounds_run {P : Program} (w : World) (sl : Bool) (len cap : Nat) (lo hi : Option Value) (l h : Option Int) (hl : (lo = none ∧ l = none) ∨ ∃ k j, lo = some (.int k j) ∧ l = some j) (hh : (hi = none ∧ h = none) ∨ ∃ k j, hi = some (.int k j) ∧ h = some j)
    (h0 : 0 ≤ l.getD 0) (h1 : l.getD 0 ≤ h.getD len) (h2 : h.getD len ≤ len) (hc : len ≤ cap) : (Instr.sliceBounds sl len cap lo hi none).run P w = .ok ((l.getD 0).toNat, (h.getD len).toNat, cap) w := by
  have hb : ∀ (k : IntKind) (j : Int) (y : Nat) (c : BoundsCode), 0 ≤ j → j ≤ y → (Instr.sliceBound (.int k j) y c).run P w = .ok j.toNat w := by
    intro k j y c g1 g2
    simp [Instr.sliceBound, asIntOf, g1, g2]
  rcases hl with ⟨rfl, rfl⟩ | ⟨k, j, rfl, rfl⟩ <;> rcases hh with ⟨rfl, rfl⟩ | ⟨k', j', rfl, rfl⟩ <;> simp only [Option.getD_none, Option.getD_some] at h0 h1 h2 ⊢
  · simp [Instr.sliceBounds]
  · have g := hb k' j' cap (if sl = true then .sliceAcap else .sliceAlen) (by omega) (by omega)
    simp [Instr.sliceBounds, g]
  · have g := hb k j len .sliceB h0 h1
    simp [Instr.sliceBounds, g]
  · have g := hb k' j' cap (if sl = true then .sliceAcap else .sliceAlen) (by omega) (by omega)
    have g' := hb k j j'.toNat .sliceB h0 (by omega)
    simp [Instr.sliceBounds, g, g']
theorem slice_ok {P : Program} {o : Oper} {t : TypeId} {x : Operand} {lo hi : Option Operand} (ho : o.op = .slice t x lo hi none) {fr : Fr} {a r : AV} {l h : Option AV} (ha : fr.ev x = .v a) (hl : evO fr lo = some l) (hh : evO fr hi = some h)
    (hf : sliceF P t a l h = some r) : Qt P o fr (.v r) := by
  intro B S β act hi'
  have hx := hi'.ev x
  rw [ha] at hx
  have hx' : VRel S a (act.eval x) := hx
  clear hx
  have ex : execOp act.eval o = (do pure (.value (← Instr.sliceAt t (act.eval x) (lo.map act.eval) (hi.map act.eval) none))) := by simp [execOp, ho]
  rw [ex]
  clear ex
  generalize act.eval x = vx at hx'
  unfold sliceF at hf
  split at hf
  · rename_i s l' h' hol hoh
    split at hf
    · rename_i hc
      obtain ⟨c1, c2, c3, c4⟩ := hc
      cases hf
      cases hx'
      have hb := fun w => bounds_run (P := P) w false s.size s.size _ _ l' h' (optInt_ev hi' hl hol) (optInt_ev hi' hh hoh) c2 c3 c4 (Nat.le_refl _)
      refine ⟨_, fun w => ?_, .val _⟩
      simp [Instr.sliceAt, Instr.slice, run_underlying (isStr_inv c1), hb]
    · cases hf
  · rename_i own cells n l' h' hol hoh
    split at hf
    · rename_i sz he
      split at hf
      · rename_i hc
        obtain ⟨c0, c2, c3, c4⟩ := hc
        cases hf
        unfold elemOfF at he
        split at he
        · rename_i e hu
          split at he
          · rename_i inf hinf
            cases he
            have ol := optInt_ev hi' hl hol
            have oh := optInt_ev hi' hh hoh
            cases hx' with
            | nil =>
              have hb := fun w => bounds_run (P := P) w true 0 0 _ _ l' h' ol oh c2 c3 c4 (Nat.le_refl _)
              have z1 : (l'.getD 0).toNat = 0 := by omega
              have z2 : (h'.getD ((0 : Nat) : Int)).toNat = 0 := by omega
              simp only [z1, z2] at hb ⊢
              refine ⟨.slice none 0 0, fun w => ?_, ?_⟩
              · simp [Instr.sliceAt, Instr.slice, run_underlying hu, hb, run_size hinf]
              · show VRel S _ _
                simpa using VRel.nil (S := S) .ro (by intro r h; cases h)
            | slice _ _ _ ad cap us hn hnc hlen hs hr hro =>
              have hb := fun w => bounds_run (P := P) w true n cap _ _ l' h' ol oh c2 c3 c4 hnc
              generalize hL : (l'.getD 0).toNat = L at hb ⊢
              generalize hH : (h'.getD (n : Int)).toNat = H at hb ⊢
              have hLH : L ≤ H := by omega
              have hHn : H ≤ n := by omega
              have hR : Rels S cells us := ⟨hlen, hr⟩
              by_cases hcl : cap = L
              · have hHL : H = L := by omega
                refine ⟨.slice (some ad) (H - L) (cap - L), fun w => ?_, ?_⟩
                · subst hcl; simp [Instr.sliceAt, Instr.slice, run_underlying hu, hb, run_size hinf]
                · rw [hHL]
                  simp only [Nat.sub_self, Nat.zero_mul, List.take_zero]
                  exact .slice _ [] 0 ad (cap - L) [] (by intro h; cases h) (Nat.zero_le _) rfl (fun j u hj => by simp at hj) (fun j a u hj => by simp at hj) (fun r h => by cases h)
              · refine ⟨.slice (some (ad.add (L * inf.size))) (H - L) (cap - L), fun w => ?_, ?_⟩
                · simp [Instr.sliceAt, Instr.slice, run_underlying hu, hb, run_size hinf, hcl]
                · have hR2 := (hR.drop (L * inf.size)).take ((H - L) * inf.size)
                  refine .slice _ _ _ (ad.add (L * inf.size)) (cap - L) ((us.drop (L * inf.size)).take ((H - L) * inf.size)) (by intro h; cases h) (by omega) hR2.1 (fun j u hj => ?_) hR2.2 (fun r h => by cases h)
                  rw [List.getElem?_take] at hj
                  split at hj
                  · rw [List.getElem?_drop] at hj
                    rw [addr_add_add]
                    exact hs _ u hj
                  · cases hj
          · cases he
        · split at he <;> cases he
        · cases he
      · cases hf
    · cases hf
  · rename_i i off n c l' h' hol hoh
    split at hf
    · rename_i sz he
      split at hf
      · rename_i hc
        obtain ⟨c2, c3, c4, hnc⟩ := hc
        cases hf
        unfold elemOfF at he
        split at he
        · rename_i e hu
          split at he
          · rename_i inf hinf
            cases he
            have ol := optInt_ev hi' hl hol
            have oh := optInt_ev hi' hh hoh
            cases hx' with
            | osl _ _ _ _ hlt =>
              have hb := fun w => bounds_run (P := P) w true n c _ _ l' h' ol oh c2 c3 c4 hnc
              generalize hL : (l'.getD 0).toNat = L at hb ⊢
              generalize hH : (h'.getD (n : Int)).toNat = H at hb ⊢
              by_cases hcl : c = L
              · subst hcl
                refine ⟨.slice (some ⟨S.o i, off, none⟩) (H - c) (c - c), fun w => ?_, ?_⟩
                · simp [Instr.sliceAt, Instr.slice, run_underlying hu, hb, run_size hinf]
                · rw [if_pos rfl]; exact .osl _ _ _ _ hlt
              · refine ⟨.slice (some ⟨S.o i, off + L * inf.size, none⟩) (H - L) (c - L), fun w => ?_, ?_⟩
                · simp [Instr.sliceAt, Instr.slice, run_underlying hu, hb, run_size hinf, hcl, Addr.add_lit]
                · rw [if_neg hcl]; exact .osl _ _ _ _ hlt
          · cases he
        · split at he <;> cases he
        · cases he
      · cases hf
    · cases hf
  · cases hf

theorem len_run {P : Program} {S : Sit} {t ty : TypeId} {a r : AV} (h : lenF P t a = some r) {v : Value} (hv : VRel S a v) : ∃ u, (∀ w, (Builtin.len_ #[t] ty #[v]).run P w = .ok u w) ∧ VRel S r u := by
  unfold lenF at h
  split at h
  · split at h
    · rename_i hs
      cases h; cases hv
      exact ⟨_, fun w => run_len_string w t ty _ (isStr_inv hs), .val _⟩
    · cases h
  · split at h
    · rename_i he
      cases h
      unfold elemOfF at he
      split at he
      · rename_i e hu
        cases hv <;> exact ⟨_, fun w => by simp [Builtin.len_, run_underlying hu]; rfl, .val _⟩
      · split at he <;> cases he
      · cases he
    · cases h
  · split at h
    · rename_i he
      cases h
      unfold elemOfF at he
      split at he
      · rename_i e hu
        cases hv; exact ⟨_, fun w => by simp [Builtin.len_, run_underlying hu]; rfl, .val _⟩
      · split at he <;> cases he
      · cases he
    · cases h
  · cases h

theorem field_ok {P : Program} {o : Oper} {s : TypeId} {x : Operand} {f : Nat} (ho : o.op = .field s x f) {fr : Fr} {a r : AV} (ha : fr.ev x = .v a) (h : fieldF P s a f = some r) : Qt P o fr (.v r) := by
  intro B S β act hi
  have hx := hi.ev x
  rw [ha] at hx
  have hx' : VRel S a (act.eval x) := hx
  have ex : execOp act.eval o = (do pure (.value (← Instr.field s (act.eval x) f))) := by simp [execOp, ho]
  rw [ex]
  clear ex hx
  generalize act.eval x = vx at hx'
  unfold fieldF at h
  have main : ∀ {off n : Nat} {g : Bool}, fieldT P s f = some (off, g, n) → ∃ fs fl, P.underlying s = some (.struct fs) ∧ fs[f]? = some fl ∧ fl.offset = off ∧ shp P fl.type = some (g, n) := by
    intro off n g hg
    unfold fieldT at hg
    split at hg
    · rename_i fs hu
      split at hg
      · rename_i fl hfl
        split at hg
        · rename_i g' n' hs
          cases hg
          exact ⟨fs, fl, hu, hfl, rfl, hs⟩
        · cases hg
      · cases hg
    · cases hg
  split at h
  · rename_i cs off n hft
    obtain ⟨fs, fl, hu, hfl, rfl, hs⟩ := main hft
    split at h
    · rename_i hle
      cases h
      cases hx' with
      | agg _ vs hl hr =>
        obtain ⟨d, i, hd, hinf, hn, hg⟩ := shp_inv hs
        have hR : Rels S cs vs.toList := ⟨by simpa using hl, fun j b u hb hu => hr j b u hb (by simpa using hu)⟩
        have hR2 := (hR.drop fl.offset).take n
        have hex : (vs.extract fl.offset (fl.offset + n)).toList = (vs.toList.drop fl.offset).take n := by
          rw [Array.toList_extract, List.extract_eq_take_drop]; congr 1; omega
        refine ⟨.agg (vs.extract fl.offset (fl.offset + n)), fun w => ?_, .agg _ _ (by rw [← Array.length_toList, hex]; exact hR2.1) (fun j b u hb hu => hR2.2 j b u hb (by rw [← hex, Array.getElem?_toList]; exact hu))⟩
        simp [Instr.field, run_underlying hu, hfl, asAgg, part, run_isAgg hs, run_size hinf, hn]
    · cases h
  · rename_i cs off n hft
    obtain ⟨fs, fl, hu, hfl, rfl, hs⟩ := main hft
    cases hx' with
    | agg _ vs hl hr =>
      have hR : Rels S cs vs.toList := ⟨by simpa using hl, fun j b u hb hu => hr j b u hb (by simpa using hu)⟩
      obtain ⟨u, hu', hru⟩ := hR.get h
      have hvu : vs[fl.offset]? = some u := by simpa using hu'
      refine ⟨u, fun w => ?_, hru⟩
      simp [Instr.field, run_underlying hu, hfl, asAgg, part, run_isAgg hs, hvu]
  · cases h

theorem zeroV_run {P : Program} {t : TypeId} {z : AV} (h : zeroV P t = some z) (S : Sit) : ∃ v, (zeroValue t).run P S.w = .ok v S.w ∧ VRel S z v := by
  unfold zeroV at h
  split at h
  · rename_i i hi
    split at h
    · rename_i zv hz
      cases h
      exact ⟨zv, zero_run hi hz S.w, of_rel S zv⟩
    · cases h
  · cases h
theorem tup2 {S : Sit} {a b : AV} {u v : Value} (h1 : VRel S a u) (h2 : VRel S b v) : VRel S (.tuple [a, b]) (.tuple #[u, v]) := by
  have := Rels.cons h1 (Rels.cons h2 (Rels.nil S))
  exact .tuple _ _ rfl (fun j b u hb hu => this.2 j b u hb (by simpa using hu))
theorem assert_ok {P : Program} {o : Oper} {x : Operand} {xt t : TypeId} {ok : Bool} (ho : o.op = .typeAssert x xt t ok) {fr : Fr} {st : St} {a r : AV} (ha : fr.ev x = .v a) (h : assertF P a t ok = some r) : OpOk P o fr st (.v r) fr st := by
  refine OpOk.value fun S0 S β act hi => ?_
  have hx := hi.fr.ev x
  rw [ha] at hx
  have hx' : VRel S a (act.eval x) := hx
  have ex : execOp act.eval o = (do pure (.value (← Instr.typeAssert (act.eval x) xt t ok))) := by simp [execOp, ho]
  rw [ex]
  clear ex hx
  generalize act.eval x = vx at hx'
  unfold assertF at h
  split at h
  · rename_i hc
    obtain ⟨d, hd, hnd⟩ : ∃ d, P.underlying t = some d ∧ ∀ ms, d ≠ .interface ms := by
      unfold concr Program.concrete at hc
      split at hc
      · cases hc
      · cases hc
      · rename_i h1 h2
        cases hu : P.underlying t with
        | none => exact absurd hu h2
        | some d => exact ⟨d, rfl, fun ms e => h1 ms (by rw [hu, e])⟩
    have tup : ∀ (a b : AV) (u v : Value), VRel S a u → VRel S b v → VRel S (.tuple [a, b]) (.tuple #[u, v]) := by
      intro a b u v h1 h2
      have := Rels.cons h1 (Rels.cons h2 (Rels.nil S))
      exact .tuple _ _ rfl (fun j b u hb hu => this.2 j b u hb (by simpa using hu))
    split at h
    · rename_i u b
      cases hx' with
      | iface _ _ v hv =>
        split at h
        · rename_i hut
          subst hut
          cases h
          refine ⟨_, ?_, tup _ _ _ _ hv (.val (.bool true))⟩
          cases d <;> first | (exact absurd rfl (hnd _)) | simp [Instr.typeAssert, run_underlying hd]
        · rename_i hut
          rw [Option.map_eq_some_iff] at h
          obtain ⟨z, hz, rfl⟩ := h
          obtain ⟨zv, hzr, hzv⟩ := zeroV_run hz S
          refine ⟨_, ?_, tup _ _ _ _ hzv (.val (.bool false))⟩
          cases d <;> first | (exact absurd rfl (hnd _)) | simp [Instr.typeAssert, run_underlying hd, hut, hzr]
    · rename_i u b
      cases hx' with
      | iface _ _ v hv =>
        split at h
        · rename_i hut
          subst hut
          cases h
          refine ⟨_, ?_, hv⟩
          cases d <;> first | (exact absurd rfl (hnd _)) | simp [Instr.typeAssert, run_underlying hd]
        · cases h
    · cases hx'
      rw [Option.map_eq_some_iff] at h
      obtain ⟨z, hz, rfl⟩ := h
      obtain ⟨zv, hzr, hzv⟩ := zeroV_run hz S
      refine ⟨_, ?_, tup _ _ _ _ hzv (.val (.bool false))⟩
      cases d <;> first | (exact absurd rfl (hnd _)) | simp [Instr.typeAssert, run_underlying hd, hzr]
    · cases h
  · split at h
    · rename_i want u b hd
      split at h
      · rename_i i hinf
        cases hx' with
        | iface _ _ v hv =>
          split at h
          · rename_i hmm
            cases h
            refine ⟨_, ?_, tup2 (.iface _ _ _ hv) (.val (.bool true))⟩
            simp [Instr.typeAssert, run_underlying hd, run_info hinf, missingMethod_none hmm]
          · rename_i m ml hmm0
            obtain ⟨mm, hmm⟩ := missingMethod_some (want := want) (got := i.methods) (by rw [hmm0]; simp)
            rw [Option.map_eq_some_iff] at h
            obtain ⟨z, hz, rfl⟩ := h
            obtain ⟨zv, hzr, hzv⟩ := zeroV_run hz S
            refine ⟨_, ?_, tup2 hzv (.val (.bool false))⟩
            simp [Instr.typeAssert, run_underlying hd, run_info hinf, hmm, hzr]
      · cases h
    · cases h
end Go.Proofs.YtknocbhocdenoaaGreatDoor
