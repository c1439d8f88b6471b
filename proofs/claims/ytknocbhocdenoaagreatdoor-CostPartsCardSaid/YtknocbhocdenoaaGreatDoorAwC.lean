/- Frames of the abstract machine; what an operation does to them (the pure ones, loads, stores, new variables); each is what the model's operation does. -/
import Derived.Test.YtknocbhocdenoaaGreatDoorAwB
namespace Go.Proofs.YtknocbhocdenoaaGreatDoor
open Go Go.RowKit

/-- What a slot holds: nothing that is known, the address of a variable of the frame's own (the one made by slot x), a value. -/
inductive Tv where
  | u
  | l (x off : Nat)
  | v (a : AV)

def look : List (Nat × Tv) → Nat → Tv
  | [], _ => .u
  | (k, x) :: r, t => bif k == t then x else look r t
def lookB : List (Nat × List AV) → Nat → Option (List AV)
  | [], _ => none
  | (k, x) :: r, t => bif k == t then some x else lookB r t
def Tv.not (x : Nat) : Tv → Tv
  | .l y o => bif y == x then .u else .l y o
  | t => t
def dropL (x : Nat) : List (Nat × Tv) → List (Nat × Tv)
  | [] => []
  | (k, t) :: r => (k, t.not x) :: dropL x r

/-- A frame: slots, own variables, how many slots there are, which slots make objects instead of own variables, which make variables that nobody writes any more. -/
structure Fr where
  tmps : List (Nat × Tv)
  boxes : List (Nat × List AV)
  N : Nat
  objs : List Nat
  froz : List Nat

def TRel (β : Nat → Nat) (S : Sit) : Tv → Value → Prop
  | .u, _ => True
  | .l x off, v => v = .pointer (some ⟨β x, off, none⟩)
  | .v a, v => VRel S a v

structure FrOk (B : Nat) (S : Sit) (β : Nat → Nat) (fr : Fr) (a : Act) : Prop where
  size : a.tmps.size = fr.N
  tmp : ∀ t, TRel β S (look fr.tmps t) (a.tmps.getD t undef)
  box : ∀ x cs, lookB fr.boxes x = some cs → B ≤ β x ∧ S.k (β x) = .priv ∧ ∃ vs e, S.w.heap[β x]? = some (.cells vs e (0, 0)) ∧ Rels S cs vs.toList
  inj : ∀ x y cs ds, lookB fr.boxes x = some cs → lookB fr.boxes y = some ds → β x = β y → x = y
  defers : a.defers = []

/-- All that is known in the midst of a call that began at S0. -/
structure Inv (S0 S : Sit) (β : Nat → Nat) (fr : Fr) (st : St) (a : Act) : Prop where
  ext : Ext S0 S
  st : StOk S st
  fr : FrOk S0.w.heap.size S β fr a

theorem TRel.mono {β : Nat → Nat} {S S' : Sit} (hw : Wk S S') {t : Tv} {v : Value} (h : TRel β S t v) : TRel β S' t v := by
  cases t with
  | u => trivial
  | l x off => exact h
  | v a => exact VRel.mono hw h
theorem FrOk.mono {B : Nat} {S S' : Sit} {β : Nat → Nat} {fr : Fr} {a : Act} (hw : Wk S S') (hb : ∀ x cs, lookB fr.boxes x = some cs → S'.w.heap[β x]? = S.w.heap[β x]? ∧ S'.k (β x) = S.k (β x)) (h : FrOk B S β fr a) : FrOk B S' β fr a :=
  ⟨h.size, fun t => (h.tmp t).mono hw, fun x cs hx => by
    obtain ⟨h1, h2, vs, e, h3, h4⟩ := h.box x cs hx
    exact ⟨h1, by rw [(hb x cs hx).2]; exact h2, vs, e, by rw [(hb x cs hx).1]; exact h3, h4.mono hw⟩, h.inj, h.defers⟩
theorem FrOk.lt {B : Nat} {S : Sit} {β : Nat → Nat} {fr : Fr} {a : Act} (h : FrOk B S β fr a) {x : Nat} {cs : List AV} (hx : lookB fr.boxes x = some cs) : β x < S.w.heap.size := by
  obtain ⟨_, _, vs, e, h3, _⟩ := h.box x cs hx
  exact (Array.getElem?_eq_some_iff.1 h3).1
/-- Behind a step after which all that was there is as it was. -/
theorem FrOk.ext {B : Nat} {S S' : Sit} {β : Nat → Nat} {fr : Fr} {a : Act} (hx : Ext S S') (h : FrOk B S β fr a) : FrOk B S' β fr a :=
  h.mono hx.wk fun x cs hb => hx.keep _ (h.lt hb) (still_priv (h.box x cs hb).2.1)

/-! ### Slots -/
theorem look_cons (k : Nat) (x : Tv) (r : List (Nat × Tv)) (t : Nat) : look ((k, x) :: r) t = if k = t then x else look r t := by
  by_cases h : k = t
  · subst h; simp [look]
  · rw [if_neg h, look, beq_eq_false_iff_ne.2 h]; rfl
def Fr.put (fr : Fr) (d : Option Nat) (t : Tv) : Fr :=
  match d with
  | some d => { fr with tmps := (d, t) :: fr.tmps }
  | none => fr
theorem getD_setIf (xs : Array Value) (d t : Nat) (v : Value) (hd : d < xs.size) : (xs.setIfInBounds d v).getD t undef = if d = t then v else xs.getD t undef := by
  by_cases h : d = t
  · subst h; simp [Array.getD, hd]
  · rw [if_neg h]
    simp only [Array.getD_eq_getD_getElem?, Array.getElem?_setIfInBounds, if_neg h]
theorem FrOk.put {B : Nat} {S : Sit} {β : Nat → Nat} {fr : Fr} {a : Act} (h : FrOk B S β fr a) {d : Option Nat} {t : Tv} {v : Value} (hd : ∀ x, d = some x → x < fr.N) (hv : TRel β S t v) : FrOk B S β (fr.put d t) (a.put d v) := by
  cases d with
  | none => exact h
  | some d =>
    have hd' : d < a.tmps.size := by rw [h.size]; exact hd d rfl
    refine ⟨by simp [Act.put, Fr.put, h.size], fun s => ?_, h.box, h.inj, h.defers⟩
    simp only [Fr.put, Act.put, look_cons, getD_setIf _ _ _ _ hd']
    split
    · exact hv
    · exact h.tmp s
def AV.of1 : Value → AV
  | .slice none 0 0 => .slice .nil [] 0
  | v => .val v
def AV.of : Value → AV
  | .agg cs => .agg (cs.toList.map AV.of1)
  | v => .of1 v
theorem of1_rel (S : Sit) (v : Value) : VRel S (.of1 v) v := by
  unfold AV.of1
  split
  · exact .nil _ (by intro r h; cases h)
  · exact .val _
theorem of1_rels (S : Sit) (vs : List Value) : Rels S (vs.map AV.of1) vs := by
  refine ⟨by simp, fun j a u ha hu => ?_⟩
  rw [List.getElem?_map, hu] at ha
  cases ha
  exact of1_rel S u
theorem of_rel (S : Sit) (v : Value) : VRel S (.of v) v := by
  unfold AV.of
  split
  · rename_i cs
    have h := of1_rels S cs.toList
    exact .agg _ _ (by simp) (fun j a u ha hu => h.2 j a u ha (by simpa using hu))
  · exact of1_rel S v
def Fr.ev (fr : Fr) : Operand → Tv
  | .tmp t => look fr.tmps t
  | .const v => .v (.of v)
  | .global _ => .u
  | .func f => .v (.func (.func f) [] [])
theorem FrOk.ev {B : Nat} {S : Sit} {β : Nat → Nat} {fr : Fr} {a : Act} (h : FrOk B S β fr a) (x : Operand) : TRel β S (fr.ev x) (a.eval x) := by
  cases x with
  | tmp t => exact h.tmp t
  | const v => exact of_rel S v
  | global g => trivial
  | func f => exact .func _ _ _ _ _ rfl rfl (fun j a u ha => by simp at ha) (fun j a u ha => by simp at ha)
theorem not_rel {β : Nat → Nat} {S : Sit} {x : Nat} {t : Tv} {v : Value} (h : TRel β S t v) (b : Nat) : TRel (upd β x b) S (t.not x) v := by
  cases t with
  | u => trivial
  | v a => exact h
  | l y o =>
    by_cases hy : y = x
    · subst hy; simp [Tv.not, TRel]
    · have e : Tv.not x (.l y o) = .l y o := by rw [Tv.not, beq_eq_false_iff_ne.2 hy]; rfl
      rw [e]
      show v = _
      rw [upd_other _ _ hy]
      exact h
theorem look_dropL (x : Nat) (ts : List (Nat × Tv)) (t : Nat) : look (dropL x ts) t = (look ts t).not x := by
  induction ts with
  | nil => rfl
  | cons p r ih =>
    obtain ⟨k, s⟩ := p
    simp only [dropL, look_cons, ih]
    split <;> rfl
theorem lookB_cons (k : Nat) (x : List AV) (r : List (Nat × List AV)) (t : Nat) : lookB ((k, x) :: r) t = if k = t then some x else lookB r t := by
  by_cases h : k = t
  · subst h; simp [lookB]
  · rw [if_neg h, lookB, beq_eq_false_iff_ne.2 h]; rfl

/-! ### What an operation must do -/
/-- Operations that look at no memory. -/
def quietK (o : Oper) : Bool :=
  match o.op with
  | .move _ | .assign _ | .pick .. | .nilCheck _ | .binOp .. | .unOp .. | .convert .. | .makeInterface .. | .makeFunc .. | .slice .. | .fieldAddr .. | .field .. | .indexAddr .. | .extract .. => true
  | .call { callee := .builtin .len, .. } => true
  | _ => false
def isLoad (o : Oper) : Bool := match o.op with | .load .. => true | _ => false
/-- Operations that turn nothing. -/
def stillK (o : Oper) : Bool := quietK o || isLoad o
/-- A store into a variable of the frame's own. -/
def isLS (o : Oper) (fr : Fr) : Bool := match o.op with | .store _ p _ => (match fr.ev p with | .l _ _ => true | _ => false) | _ => false
/-- What was there before is as it was, but for one variable of the frame's own that is stored into. -/
def StepOk (o : Oper) (fr : Fr) (β : Nat → Nat) (S S' : Sit) : Prop :=
  S' = S ∨ (Ext S S' ∧ isLS o fr = false ∧ stillK o = false) ∨ ∃ t p e x off, o.op = .store t p e ∧ fr.ev p = .l x off ∧ Wk S S' ∧ S'.k = S.k ∧ S'.o = S.o ∧ S.w.heap.size ≤ S'.w.heap.size ∧ ∀ b, b ≠ β x → S'.w.heap[b]? = S.w.heap[b]?
/-- The operation, at whatever the frame and state stand for, gives 'tv' and leaves frame and state 'fr'', 'st''. -/
def OpOk (P : Program) (o : Oper) (fr : Fr) (st : St) (tv : Tv) (fr' : Fr) (st' : St) : Prop :=
  ∀ S0 S β a, Inv S0 S β fr st a → ∃ nx S' β', (execOp a.eval o).run P S.w = .ok nx S'.w ∧ ((∃ v, nx = .value v ∧ TRel β' S' tv v) ∨ (nx = .skip ∧ tv = .u)) ∧ Inv S0 S' β' fr' st' a ∧ StepOk o fr β S S' ∧ ∀ x, o.dst ≠ some x → β' x = β x

theorem OpOk.value {P : Program} {o : Oper} {fr : Fr} {st : St} {tv : Tv}
    (h : ∀ S0 S β a, Inv S0 S β fr st a → ∃ v, (execOp a.eval o).run P S.w = .ok (.value v) S.w ∧ TRel β S tv v) : OpOk P o fr st tv fr st :=
  fun S0 S β a hi => by
    obtain ⟨v, h1, h2⟩ := h S0 S β a hi
    exact ⟨_, S, β, h1, .inl ⟨v, rfl, h2⟩, hi, .inl rfl, fun _ _ => rfl⟩

/-- The operation gives a value of which 'tv' is true, whatever the memory, and does nothing else. -/
def Qt (P : Program) (o : Oper) (fr : Fr) (tv : Tv) : Prop :=
  ∀ B S β a, FrOk B S β fr a → ∃ v, (∀ w, (execOp a.eval o).run P w = .ok (.value v) w) ∧ TRel β S tv v
theorem Qt.ok {P : Program} {o : Oper} {fr : Fr} {tv : Tv} (h : Qt P o fr tv) (st : St) : OpOk P o fr st tv fr st :=
  OpOk.value fun S0 S β a hi => by
    obtain ⟨v, h1, h2⟩ := h _ S β a hi.fr
    exact ⟨v, h1 _, h2⟩

/-! ### Pure operations on values without addresses -/
def pureRun {α : Type} (P : Program) : Sem α → Option α
  | .pure a => some a
  | .program k => pureRun P (k P)
  | .mark _ k => pureRun P k
  | _ => none
theorem pureRun_run {α : Type} {P : Program} {s : Sem α} {a : α} (h : pureRun P s = some a) (w : World) : s.run P w = .ok a w := by
  induction s with
  | pure b => cases h; rfl
  | program k ih => exact ih P h
  | mark m k ih => exact ih h
  | _ => cases h

def AV.ground : AV → Option Value
  | .val v => some v
  | .slice .nil [] 0 => some (.slice none 0 0)
  | .iface t (.val v) => some (.iface t v)
  | .iface t (.agg cs) => ((cs.mapM fun | .val v => some v | _ => none) : Option (List Value)).map fun l => .iface t (.agg l.toArray)
  | .agg cs => ((cs.mapM fun | .val v => some v | _ => none) : Option (List Value)).map fun l => .agg l.toArray
  | _ => none
theorem ground_list {S : Sit} {cs : List AV} {l : List Value} (h : (cs.mapM fun | .val v => some v | _ => none : Option (List Value)) = some l) {vs : List Value} (hr : Rels S cs vs) : vs = l := by
  induction cs generalizing l vs with
  | nil => simp at h; subst h; exact hr.inv_nil
  | cons c cs ih =>
    obtain ⟨u, us, rfl, h1, h2⟩ := hr.inv
    rw [List.mapM_cons] at h
    cases c <;> try (simp at h; done)
    simp only [Option.pure_def, Option.bind_eq_bind, Option.bind_some, Option.bind_eq_some_iff] at h
    obtain ⟨l', hl', e⟩ := h
    cases e
    rw [ih hl' h2]
    cases h1
    rfl
theorem ground_rel {S : Sit} {a : AV} {v : Value} (h : a.ground = some v) {u : Value} (hr : VRel S a u) : u = v := by
  unfold AV.ground at h
  split at h
  · cases h; cases hr; rfl
  · cases h
    cases hr with
    | nil => rfl
    | slice _ _ _ _ _ _ hn => exact absurd rfl hn
  · cases h; cases hr with | iface _ _ _ hv => cases hv; rfl
  · rename_i t cs
    rw [Option.map_eq_some_iff] at h
    obtain ⟨l, hl, e⟩ := h
    subst e
    cases hr with
    | iface _ _ _ hv =>
      cases hv with
      | agg _ vs hs hrr =>
        have := ground_list hl (S := S) (vs := vs.toList) ⟨by simpa using hs, fun j a u ha hu => hrr j a u ha (by simpa using hu)⟩
        rw [← this]
  · rename_i cs
    rw [Option.map_eq_some_iff] at h
    obtain ⟨l, hl, e⟩ := h
    subst e
    cases hr with
    | agg _ vs hs hrr =>
      have := ground_list hl (S := S) (vs := vs.toList) ⟨by simpa using hs, fun j a u ha hu => hrr j a u ha (by simpa using hu)⟩
      rw [← this]
  · cases h

def Tv.ground : Tv → Option Value
  | .v a => a.ground
  | _ => none
theorem tground_rel {β : Nat → Nat} {S : Sit} {t : Tv} {v : Value} (h : t.ground = some v) {u : Value} (hr : TRel β S t u) : u = v := by
  cases t with
  | v a => exact ground_rel h hr
  | u => cases h
  | l x o => cases h

def Op.noSelect : Op → Bool
  | .select .. => false
  | _ => true
def groundF (P : Program) (o : Oper) (fr : Fr) : Option Value :=
  bif Op.noSelect o.op && o.op.operands.toList.all (fun x => (fr.ev x).ground.isSome) then
    match pureRun P (execOp (fun x => ((fr.ev x).ground).getD undef) o) with
    | some (.value v) => some v
    | _ => none
  else none
theorem groundF_ok {P : Program} {o : Oper} {fr : Fr} {v : Value} (h : groundF P o fr = some v) : Qt P o fr (.v (.of v)) := by
  refine fun B S β a hi => ⟨v, fun w => ?_, of_rel S v⟩
  unfold groundF at h
  cases hc : (Op.noSelect o.op && o.op.operands.toList.all (fun x => (fr.ev x).ground.isSome)) with
  | false => rw [hc] at h; cases h
  | true =>
    rw [hc] at h
    simp only [cond_true] at h
    rw [Bool.and_eq_true] at hc
    have hcg : execOp a.eval o = execOp (fun x => ((fr.ev x).ground).getD undef) o := by
      refine execOp_congr o (fun cs b e => by rw [e] at hc; simp [Op.noSelect] at hc) fun x hx => ?_
      have := List.all_eq_true.1 hc.2 x (by simpa using hx)
      obtain ⟨g, hg⟩ := Option.isSome_iff_exists.1 this
      rw [hg]
      exact tground_rel hg (hi.ev x)
    rw [hcg]
    split at h
    · rename_i v' hp
      cases h
      exact pureRun_run hp w
    · cases h
end Go.Proofs.YtknocbhocdenoaaGreatDoor
