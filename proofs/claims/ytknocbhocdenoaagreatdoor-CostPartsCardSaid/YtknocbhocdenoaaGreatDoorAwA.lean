/- The abstract machine's values: what a Go value of the model stands for (slices with their contents), and the relation to the model's values and world; facts on values stay true in later worlds. -/
import Derived.WalkKit
import Derived.Orders
import Derived.DataElems
namespace Go.Proofs.YtknocbhocdenoaaGreatDoor
open Go Go.RowKit

/-- Whose a slice's room is: nobody's (it is only read), surely nil, row number r of the abstract machine. -/
inductive Own where
  | ro
  | nil
  | row (r : Nat)

/-- Abstract values. -/
inductive AV where
  | undef
  | val (v : Value)
  | ptr (i off : Nat)
  | rptr (cells : List AV) (off : Nat)
  | slice (own : Own) (cells : List AV) (n : Nat)
  | map (i : Nat)
  | osl (i off n c : Nat)
  | iface (t : TypeId) (v : AV)
  | func (fn : Fn) (first cap : List AV)
  | agg (cs : List AV)
  | tuple (vs : List AV)

/-- What a block of the model's memory is to the abstract machine. -/
inductive Kind where
  | fixed
  | part (m : Nat)
  | row (m : Nat)
  | obj
  | priv

/-- A situation: the world, the kinds of its blocks, where objects and rows lie. -/
structure Sit where
  w : World
  k : Nat → Kind
  o : Nat → Nat
  r : Nat → Nat
  no : Nat
  nr : Nat

def Kind.safe : Kind → Nat → Prop
  | .fixed, _ => True
  | .part m, j => j < m
  | .row m, j => j < m
  | _, _ => False

/-- Blocks that a call of somebody else's leaves as they are. -/
def Kind.still : Kind → Bool
  | .fixed | .part _ | .priv => true
  | _ => false
/-- A cell that never changes any more. -/
def Stable (S : Sit) (a : Addr) (u : Value) : Prop := S.w.cell? a = some u ∧ (S.k a.block).safe a.off

/-- What a row's slice value says of its block. -/
def RowOk (S : Sit) (r : Nat) (ad : Addr) (len cap n : Nat) : Prop :=
  r < S.nr ∧ ad = ⟨S.r r, 0, none⟩ ∧ ∃ cur e size m, S.w.heap[S.r r]? = some (.cells cur e (0, 0)) ∧ cur.size = cap * size ∧ len = n * size ∧ 0 < size ∧ cap ≤ maxLen ∧ S.k (S.r r) = .row m

/-- What an abstract value says of a value. -/
inductive VRel (S : Sit) : AV → Value → Prop where
  | undef (v : Value) : VRel S .undef v
  | val (v : Value) : VRel S (.val v) v
  | ptr (i off : Nat) (h : i < S.no) : VRel S (.ptr i off) (.pointer (some ⟨S.o i, off, none⟩))
  | rptr (cells : List AV) (off : Nat) (ad : Addr) (us : List Value) (hl : us.length = cells.length) (hs : ∀ j u, us[j]? = some u → Stable S (ad.add j) u)
      (hr : ∀ (j : Nat) a u, cells[j]? = some a → us[j]? = some u → VRel S a u) : VRel S (.rptr cells off) (.pointer (some (ad.add off)))
  | nil (own : Own) (h : ∀ r, own ≠ .row r) : VRel S (.slice own [] 0) (.slice none 0 0)
  | slice (own : Own) (cells : List AV) (n : Nat) (ad : Addr) (cap : Nat) (us : List Value) (hn : own ≠ .nil) (hc : n ≤ cap) (hl : us.length = cells.length)
      (hs : ∀ j u, us[j]? = some u → Stable S (ad.add j) u) (hr : ∀ (j : Nat) a u, cells[j]? = some a → us[j]? = some u → VRel S a u)
      (ho : ∀ r, own = .row r → RowOk S r ad cells.length cap n) : VRel S (.slice own cells n) (.slice (some ad) n cap)
  | map (i : Nat) (h : i < S.no) : VRel S (.map i) (.map (some (S.o i)))
  | osl (i off n c : Nat) (h : i < S.no) : VRel S (.osl i off n c) (.slice (some ⟨S.o i, off, none⟩) n c)
  | iface (t : TypeId) (a : AV) (v : Value) (h : VRel S a v) : VRel S (.iface t a) (.iface t v)
  | func (fn : Fn) (first cap : List AV) (us vs : Array Value) (h1 : us.size = first.length) (h2 : vs.size = cap.length)
      (hr1 : ∀ (j : Nat) a u, first[j]? = some a → us[j]? = some u → VRel S a u) (hr2 : ∀ (j : Nat) a u, cap[j]? = some a → vs[j]? = some u → VRel S a u) : VRel S (.func fn first cap) (.func fn us vs)
  | agg (cs : List AV) (vs : Array Value) (hl : vs.size = cs.length) (hr : ∀ (j : Nat) a u, cs[j]? = some a → vs[j]? = some u → VRel S a u) : VRel S (.agg cs) (.agg vs)
  | tuple (cs : List AV) (vs : Array Value) (hl : vs.size = cs.length) (hr : ∀ (j : Nat) a u, cs[j]? = some a → vs[j]? = some u → VRel S a u) : VRel S (.tuple cs) (.tuple vs)

/-- Lists of values. -/
def Rels (S : Sit) (as : List AV) (vs : List Value) : Prop := vs.length = as.length ∧ ∀ (j : Nat) a u, as[j]? = some a → vs[j]? = some u → VRel S a u

/-- Facts on values at S hold at S'. -/
structure Wk (S S' : Sit) : Prop where
  cell : ∀ a u, Stable S a u → Stable S' a u
  o : ∀ i, i < S.no → S'.o i = S.o i
  r : ∀ i, i < S.nr → S'.r i = S.r i
  no : S.no ≤ S'.no
  nr : S.nr ≤ S'.nr
  shape : ∀ b cur e m, S.k b = .row m → S.w.heap[b]? = some (.cells cur e (0, 0)) → (∃ m', S'.k b = .row m') ∧ ∃ cur', S'.w.heap[b]? = some (.cells cur' e (0, 0)) ∧ cur'.size = cur.size

theorem Wk.refl (S : Sit) : Wk S S := ⟨fun _ _ h => h, fun _ _ => rfl, fun _ _ => rfl, Nat.le_refl _, Nat.le_refl _, fun _ cur _ m hk h => ⟨⟨m, hk⟩, cur, h, rfl⟩⟩
theorem Wk.trans {S S' S'' : Sit} (h : Wk S S') (g : Wk S' S'') : Wk S S'' :=
  ⟨fun a u hs => g.cell a u (h.cell a u hs), fun i hi => (g.o i (Nat.lt_of_lt_of_le hi h.no)).trans (h.o i hi), fun i hi => (g.r i (Nat.lt_of_lt_of_le hi h.nr)).trans (h.r i hi),
    Nat.le_trans h.no g.no, Nat.le_trans h.nr g.nr, fun b cur e m hk hb => by
      obtain ⟨⟨m', hk'⟩, cur', hb', hs'⟩ := h.shape b cur e m hk hb
      obtain ⟨hk'', cur'', hb'', hs''⟩ := g.shape b cur' e m' hk' hb'
      exact ⟨hk'', cur'', hb'', hs''.trans hs'⟩⟩

theorem RowOk.mono {S S' : Sit} (hw : Wk S S') {r : Nat} {ad : Addr} {len cap n : Nat} (h : RowOk S r ad len cap n) : RowOk S' r ad len cap n := by
  obtain ⟨h1, h2, cur, e, size, m, h3, h4, h5, h6, h7, h8⟩ := h
  obtain ⟨⟨m', hk'⟩, cur', hb', hs'⟩ := hw.shape _ cur e m h8 h3
  have hr := hw.r r h1
  exact ⟨Nat.lt_of_lt_of_le h1 hw.nr, by rw [hr]; exact h2, cur', e, size, m', by rw [hr]; exact hb', hs'.trans h4, h5, h6, h7, by rw [hr]; exact hk'⟩

theorem VRel.mono {S S' : Sit} (hw : Wk S S') {a : AV} {v : Value} (h : VRel S a v) : VRel S' a v := by
  induction h with
  | undef v => exact .undef v
  | val v => exact .val v
  | ptr i off h => rw [← hw.o i h]; exact .ptr i off (Nat.lt_of_lt_of_le h hw.no)
  | rptr cells off ad us hl hs hr ih => exact .rptr cells off ad us hl (fun j u hj => hw.cell _ _ (hs j u hj)) ih
  | nil own h => exact .nil own h
  | slice own cells n ad cap us hn hc hl hs hr ho ih => exact .slice own cells n ad cap us hn hc hl (fun j u hj => hw.cell _ _ (hs j u hj)) ih (fun r hr => (ho r hr).mono hw)
  | map i h => rw [← hw.o i h]; exact .map i (Nat.lt_of_lt_of_le h hw.no)
  | osl i off n c h => rw [← hw.o i h]; exact .osl i off n c (Nat.lt_of_lt_of_le h hw.no)
  | iface t a v h ih => exact .iface t a v ih
  | func fn first cap us vs h1 h2 hr1 hr2 ih1 ih2 => exact .func fn first cap us vs h1 h2 ih1 ih2
  | agg cs vs hl hr ih => exact .agg cs vs hl ih
  | tuple cs vs hl hr ih => exact .tuple cs vs hl ih

theorem Rels.mono {S S' : Sit} (hw : Wk S S') {as : List AV} {vs : List Value} (h : Rels S as vs) : Rels S' as vs := ⟨h.1, fun j a u ha hu => (h.2 j a u ha hu).mono hw⟩
theorem Rels.nil (S : Sit) : Rels S [] [] := ⟨rfl, fun j a u h => by simp at h⟩
theorem Rels.cons {S : Sit} {a : AV} {v : Value} {as : List AV} {vs : List Value} (h : VRel S a v) (hs : Rels S as vs) : Rels S (a :: as) (v :: vs) := by
  refine ⟨by simp [hs.1], fun j b u hb hu => ?_⟩
  cases j with
  | zero => simp at hb hu; subst hb; subst hu; exact h
  | succ j => simp at hb hu; exact hs.2 j b u hb hu
theorem Rels.inv {S : Sit} {a : AV} {as : List AV} {vs : List Value} (h : Rels S (a :: as) vs) : ∃ u us, vs = u :: us ∧ VRel S a u ∧ Rels S as us := by
  cases vs with
  | nil => have := h.1; simp at this
  | cons u us => exact ⟨u, us, rfl, h.2 0 a u rfl rfl, by have := h.1; simpa using this, fun j b x hb hx => h.2 (j + 1) b x (by simpa using hb) (by simpa using hx)⟩
theorem Rels.inv_nil {S : Sit} {vs : List Value} (h : Rels S [] vs) : vs = [] := by have := h.1; simpa using this
theorem Rels.get {S : Sit} {as : List AV} {vs : List Value} (h : Rels S as vs) {j : Nat} {a : AV} (ha : as[j]? = some a) : ∃ u, vs[j]? = some u ∧ VRel S a u := by
  have hj : j < as.length := (List.getElem?_eq_some_iff.1 ha).1
  have hv : vs[j]? = some (vs[j]'(by rw [h.1]; exact hj)) := List.getElem?_eq_getElem _
  exact ⟨_, hv, h.2 j a _ ha hv⟩
theorem Rels.append {S : Sit} {as bs : List AV} {us vs : List Value} (h : Rels S as us) (g : Rels S bs vs) : Rels S (as ++ bs) (us ++ vs) := by
  refine ⟨by simp [h.1, g.1], fun j a u ha hu => ?_⟩
  by_cases hj : j < as.length
  · rw [List.getElem?_append_left hj] at ha
    rw [List.getElem?_append_left (by rw [h.1]; exact hj)] at hu
    exact h.2 j a u ha hu
  · rw [List.getElem?_append_right (by omega)] at ha
    rw [List.getElem?_append_right (by rw [h.1]; omega), h.1] at hu
    exact g.2 _ a u ha hu
theorem Rels.take {S : Sit} {as : List AV} {us : List Value} (h : Rels S as us) (n : Nat) : Rels S (as.take n) (us.take n) := by
  refine ⟨by simp [h.1], fun j a u ha hu => ?_⟩
  rw [List.getElem?_take] at ha hu
  split at ha
  · rw [if_pos (by assumption)] at hu; exact h.2 j a u ha hu
  · cases ha
theorem Rels.drop {S : Sit} {as : List AV} {us : List Value} (h : Rels S as us) (n : Nat) : Rels S (as.drop n) (us.drop n) := by
  refine ⟨by simp [h.1], fun j a u ha hu => ?_⟩
  rw [List.getElem?_drop] at ha hu
  exact h.2 _ a u ha hu
theorem Rels.set {S : Sit} {as : List AV} {us : List Value} (h : Rels S as us) (i : Nat) {a : AV} {u : Value} (g : VRel S a u) : Rels S (as.set i a) (us.set i u) := by
  refine ⟨by simp [h.1], fun j b v hb hv => ?_⟩
  rw [List.getElem?_set] at hb hv
  by_cases hij : i = j
  · subst hij
    simp only [if_true, h.1] at hb hv
    split at hb
    · rw [if_pos (by assumption)] at hv
      cases hb; cases hv; exact g
    · cases hb
  · rw [if_neg hij] at hb hv
    exact h.2 j b v hb hv

/-- Objects of the abstract memory. -/
inductive AObj where
  | cells (cs : List AV)
  | map (es : List (ByteArray × AV))

/-- The abstract state: objects; rows, those that may grow with their number of cells. -/
structure St where
  mem : List AObj
  rows : List (Option Nat)

def ORel (S : Sit) (b : Nat) : AObj → Prop
  | .cells cs => ∃ vs e, S.w.heap[b]? = some (.cells vs e (0, 0)) ∧ Rels S cs vs.toList
  | .map es => ∃ ents clock, S.w.heap[b]? = some (.map ents clock) ∧ ents.size = es.length ∧ ∀ (j : Nat) (kv : ByteArray × AV) en, es[j]? = some kv → ents[j]? = some en → en.key = .string kv.1 ∧ VRel S kv.2 en.val

/-- What the package-level variable errors.errorType holds. -/
def errV : Value := .iface 225 (.agg #[.pointer (some ⟨1, 38, none⟩)])
structure StOk (S : Sit) (st : St) : Prop where
  glob : Stable S ⟨0, 0, none⟩ errV
  no : S.no = st.mem.length
  nr : S.nr = st.rows.length
  obj : ∀ i ob, st.mem[i]? = some ob → S.k (S.o i) = .obj ∧ ORel S (S.o i) ob
  inj : ∀ i j, i < S.no → j < S.no → S.o i = S.o j → i = j
  row : ∀ r m, st.rows[r]? = some (some m) → S.k (S.r r) = .row m ∧ S.r r < S.w.heap.size
  rinj : ∀ r r' m m', st.rows[r]? = some (some m) → st.rows[r']? = some (some m') → S.r r = S.r r' → r = r'

/-- A later situation of a call's caller. -/
structure Ext (S S' : Sit) : Prop where
  wk : Wk S S'
  os : S'.w.os = S.w.os
  tape : S'.w.tape = S.w.tape
  output : S'.w.output = S.w.output
  size : S.w.heap.size ≤ S'.w.heap.size
  keep : ∀ b, b < S.w.heap.size → (S.k b).still = true → S'.w.heap[b]? = S.w.heap[b]? ∧ S'.k b = S.k b
  row : ∀ b m, b < S.w.heap.size → S.k b = .row m → ∃ m', m ≤ m' ∧ S'.k b = .row m'
  obj : ∀ b, b < S.w.heap.size → S.k b = .obj → S'.k b = .obj

theorem still_priv {κ : Kind} (h : κ = .priv) : κ.still = true := by rw [h]; rfl
theorem Ext.refl (S : Sit) : Ext S S := ⟨.refl S, rfl, rfl, rfl, Nat.le_refl _, fun _ _ _ => ⟨rfl, rfl⟩, fun _ m _ h => ⟨m, Nat.le_refl _, h⟩, fun _ _ h => h⟩
theorem Ext.trans {S S' S'' : Sit} (h : Ext S S') (g : Ext S' S'') : Ext S S'' where
  wk := h.wk.trans g.wk
  os := g.os.trans h.os
  tape := g.tape.trans h.tape
  output := g.output.trans h.output
  size := Nat.le_trans h.size g.size
  keep := fun b hb hk => by
    obtain ⟨h1, h2⟩ := h.keep b hb hk
    obtain ⟨g1, g2⟩ := g.keep b (Nat.lt_of_lt_of_le hb h.size) (by rw [h2]; exact hk)
    exact ⟨g1.trans h1, g2.trans h2⟩
  row := fun b m hb hk => by
    obtain ⟨m', hm, hk'⟩ := h.row b m hb hk
    obtain ⟨m'', hm', hk''⟩ := g.row b m' (Nat.lt_of_lt_of_le hb h.size) hk'
    exact ⟨m'', Nat.le_trans hm hm', hk''⟩
  obj := fun b hb hk => g.obj b (Nat.lt_of_lt_of_le hb h.size) (h.obj b hb hk)
end Go.Proofs.YtknocbhocdenoaaGreatDoor
