/- Steps between situations: a draw, a new block, a store into a block of one's own, into an object, behind a row's end. Frames of the abstract machine. -/
import Derived.Test.YtknocbhocdenoaaGreatDoorAwA
namespace Go.Proofs.YtknocbhocdenoaaGreatDoor
open Go Go.RowKit

def upd {α : Type} (f : Nat → α) (b : Nat) (x : α) (i : Nat) : α := if i = b then x else f i
theorem upd_same {α : Type} (f : Nat → α) (b : Nat) (x : α) : upd f b x b = x := by simp [upd]
theorem upd_other {α : Type} (f : Nat → α) {b i : Nat} (x : α) (h : i ≠ b) : upd f b x i = f i := by simp [upd, h]

/-- The same memory in another world (a draw). -/
def Sit.onW (S : Sit) (w : World) : Sit := { S with w := w }
theorem ext_onW (S : Sit) {w : World} (hh : w.heap = S.w.heap) (ho : w.os = S.w.os) (ht : w.tape = S.w.tape) (hp : w.output = S.w.output) : Ext S (S.onW w) where
  wk := ⟨fun a u h => ⟨by have := h.1; simpa [Sit.onW, World.cell?, hh] using this, h.2⟩, fun _ _ => rfl, fun _ _ => rfl, Nat.le_refl _, Nat.le_refl _, fun b cur e m hk hb => ⟨⟨m, hk⟩, cur, by simpa [Sit.onW, hh] using hb, rfl⟩⟩
  os := ho
  tape := ht
  output := hp
  size := by simp [Sit.onW, hh]
  keep := fun b _ _ => ⟨by simp [Sit.onW, hh], rfl⟩
  row := fun b m _ hk => ⟨m, Nat.le_refl _, hk⟩
  obj := fun _ _ hk => hk

theorem ORel.heap {S S' : Sit} (hw : Wk S S') {b : Nat} {ob : AObj} (hb : S'.w.heap[b]? = S.w.heap[b]?) (h : ORel S b ob) : ORel S' b ob := by
  cases ob with
  | cells cs => obtain ⟨vs, e, h1, h2⟩ := h; exact ⟨vs, e, hb.trans h1, h2.mono hw⟩
  | map es => obtain ⟨en, c, h1, h2, h3⟩ := h; exact ⟨en, c, hb.trans h1, h2, fun j kv x hj hx => ⟨(h3 j kv x hj hx).1, (h3 j kv x hj hx).2.mono hw⟩⟩
theorem ORel.lt {S : Sit} {b : Nat} {ob : AObj} (h : ORel S b ob) : b < S.w.heap.size := by
  cases ob with
  | cells cs => obtain ⟨vs, e, h1, h2⟩ := h; exact (Array.getElem?_eq_some_iff.1 h1).1
  | map es => obtain ⟨en, c, h1, h2, h3⟩ := h; exact (Array.getElem?_eq_some_iff.1 h1).1
theorem StOk.lt {S : Sit} {st : St} (h : StOk S st) {i : Nat} (hi : i < S.no) : S.o i < S.w.heap.size := by
  have hi' : i < st.mem.length := by rw [← h.no]; exact hi
  exact (h.obj i _ (List.getElem?_eq_getElem hi')).2.lt
theorem StOk.kind {S : Sit} {st : St} (h : StOk S st) {i : Nat} (hi : i < S.no) : S.k (S.o i) = .obj := by
  have hi' : i < st.mem.length := by rw [← h.no]; exact hi
  exact (h.obj i _ (List.getElem?_eq_getElem hi')).1

theorem StOk.onW {S : Sit} {st : St} (h : StOk S st) {w : World} (hh : w.heap = S.w.heap) (ho : w.os = S.w.os) (ht : w.tape = S.w.tape) (hp : w.output = S.w.output) : StOk (S.onW w) st :=
  ⟨(ext_onW S hh ho ht hp).wk.cell _ _ h.glob, h.no, h.nr, fun i ob hi => ⟨(h.obj i ob hi).1, (h.obj i ob hi).2.heap (ext_onW S hh ho ht hp).wk (by simp [Sit.onW, hh])⟩, h.inj, fun r m hr => ⟨(h.row r m hr).1, by simp only [Sit.onW, hh]; exact (h.row r m hr).2⟩, h.rinj⟩

theorem cell_lt {w : World} {a : Addr} {u : Value} (h : w.cell? a = some u) : a.block < w.heap.size := World.block_lt_of_cell? w a h

/-- A new block of a kind. -/
def Sit.new (S : Sit) (ob : Obj) (κ : Kind) : Sit := { S with w := S.w.alloc ob, k := upd S.k S.w.heap.size κ }
theorem Sit.new_heap (S : Sit) (ob : Obj) (κ : Kind) : (S.new ob κ).w.heap[S.w.heap.size]? = some ob := by
  show (S.w.heap.push ob)[S.w.heap.size]? = _; simp
theorem Sit.new_old (S : Sit) (ob : Obj) (κ : Kind) {b : Nat} (h : b < S.w.heap.size) : (S.new ob κ).w.heap[b]? = S.w.heap[b]? := Below.heap_alloc _ _ _ h
theorem Sit.new_kind (S : Sit) (ob : Obj) (κ : Kind) : (S.new ob κ).k S.w.heap.size = κ := upd_same _ _ _
theorem Sit.new_kind_old (S : Sit) (ob : Obj) (κ : Kind) {b : Nat} (h : b < S.w.heap.size) : (S.new ob κ).k b = S.k b := upd_other _ _ (by omega)
theorem Sit.new_size (S : Sit) (ob : Obj) (κ : Kind) : (S.new ob κ).w.heap.size = S.w.heap.size + 1 := by simp [Sit.new]
theorem ext_new (S : Sit) (ob : Obj) (κ : Kind) : Ext S (S.new ob κ) where
  wk := ⟨fun a u h => by
      have hlt := cell_lt h.1
      refine ⟨?_, ?_⟩
      · have : (S.new ob κ).w.cell? a = S.w.cell? a := World.cell?_of_block (S.new_old ob κ hlt)
        rw [this]; exact h.1
      · rw [S.new_kind_old ob κ hlt]; exact h.2,
    fun _ _ => rfl, fun _ _ => rfl, Nat.le_refl _, Nat.le_refl _, fun b cur e m hk hb => by
      have hlt : b < S.w.heap.size := (Array.getElem?_eq_some_iff.1 hb).1
      exact ⟨⟨m, by rw [S.new_kind_old ob κ hlt]; exact hk⟩, cur, by rw [S.new_old ob κ hlt]; exact hb, rfl⟩⟩
  os := rfl
  tape := rfl
  output := rfl
  size := by rw [S.new_size]; omega
  keep := fun b hb _ => ⟨S.new_old ob κ hb, S.new_kind_old ob κ hb⟩
  row := fun b m hb hk => ⟨m, Nat.le_refl _, by rw [S.new_kind_old ob κ hb]; exact hk⟩
  obj := fun b hb hk => by rw [S.new_kind_old ob κ hb]; exact hk

theorem StOk.new {S : Sit} {st : St} (h : StOk S st) (ob : Obj) (κ : Kind) : StOk (S.new ob κ) st :=
  ⟨(ext_new S ob κ).wk.cell _ _ h.glob, h.no, h.nr, fun i o hi => by
      have hlt := (h.obj i o hi).2.lt
      exact ⟨by rw [show (S.new ob κ).o i = S.o i from rfl, S.new_kind_old ob κ hlt]; exact (h.obj i o hi).1, (h.obj i o hi).2.heap (ext_new S ob κ).wk (S.new_old ob κ hlt)⟩,
    h.inj, fun r m hm => ⟨by rw [show (S.new ob κ).r r = S.r r from rfl, S.new_kind_old ob κ (h.row r m hm).2]; exact (h.row r m hm).1, by rw [S.new_size]; exact Nat.lt_succ_of_lt (h.row r m hm).2⟩, h.rinj⟩

/-- Block b is known as one object more. -/
def Sit.addObj (S : Sit) (b : Nat) : Sit := { S with o := upd S.o S.no b, no := S.no + 1 }
theorem wk_addObj (S : Sit) (b : Nat) : Wk S (S.addObj b) :=
  ⟨fun _ _ h => h, fun i hi => upd_other _ _ (by omega), fun _ _ => rfl, by simp [Sit.addObj], Nat.le_refl _, fun _ cur _ m hk h => ⟨⟨m, hk⟩, cur, h, rfl⟩⟩
theorem ext_addObj (S : Sit) (b : Nat) : Ext S (S.addObj b) :=
  ⟨wk_addObj S b, rfl, rfl, rfl, Nat.le_refl _, fun _ _ _ => ⟨rfl, rfl⟩, fun _ m _ h => ⟨m, Nat.le_refl _, h⟩, fun _ _ h => h⟩
theorem StOk.addObj {S : Sit} {st : St} (h : StOk S st) {b : Nat} {ob : AObj} (hk : S.k b = .obj) (ho : ORel S b ob) (hne : ∀ i, i < S.no → S.o i ≠ b) : StOk (S.addObj b) { st with mem := st.mem ++ [ob] } where
  glob := (wk_addObj S b).cell _ _ h.glob
  no := by simp [Sit.addObj, h.no]
  nr := h.nr
  obj := fun i o hi => by
    by_cases hlt : i < st.mem.length
    · rw [List.getElem?_append_left hlt] at hi
      have e : (S.addObj b).o i = S.o i := upd_other _ _ (by have := h.no; omega)
      rw [e]
      exact ⟨(h.obj i o hi).1, (h.obj i o hi).2.heap (wk_addObj S b) rfl⟩
    · rw [List.getElem?_append_right (by omega)] at hi
      have hi0 : i - st.mem.length = 0 := by
        rcases Nat.eq_zero_or_pos (i - st.mem.length) with h0 | h0
        · exact h0
        · rw [List.getElem?_eq_none (by simp; omega)] at hi; cases hi
      rw [hi0] at hi
      cases hi
      have e : (S.addObj b).o i = b := by
        have : i = S.no := by have := h.no; omega
        rw [this]; exact upd_same _ _ _
      rw [e]
      exact ⟨hk, ho.heap (wk_addObj S b) rfl⟩
  inj := fun i j hi hj he => by
    simp only [Sit.addObj] at hi hj he
    by_cases h1 : i = S.no
    · by_cases h2 : j = S.no
      · rw [h1, h2]
      · rw [h1, upd_same, upd_other _ _ h2] at he
        exact absurd he.symm (hne j (by omega))
    · by_cases h2 : j = S.no
      · rw [h2, upd_same, upd_other _ _ h1] at he
        exact absurd he (hne i (by omega))
      · rw [upd_other _ _ h1, upd_other _ _ h2] at he
        exact h.inj i j (by omega) (by omega) he
  row := h.row
  rinj := h.rinj

/-- Block b is known as one row more. -/
def Sit.addRow (S : Sit) (b : Nat) : Sit := { S with r := upd S.r S.nr b, nr := S.nr + 1 }
theorem wk_addRow (S : Sit) (b : Nat) : Wk S (S.addRow b) :=
  ⟨fun _ _ h => h, fun _ _ => rfl, fun i hi => upd_other _ _ (by omega), Nat.le_refl _, by simp [Sit.addRow], fun _ cur _ m hk h => ⟨⟨m, hk⟩, cur, h, rfl⟩⟩
theorem ext_addRow (S : Sit) (b : Nat) : Ext S (S.addRow b) :=
  ⟨wk_addRow S b, rfl, rfl, rfl, Nat.le_refl _, fun _ _ _ => ⟨rfl, rfl⟩, fun _ m _ h => ⟨m, Nat.le_refl _, h⟩, fun _ _ h => h⟩
theorem StOk.addRow {S : Sit} {st : St} (h : StOk S st) {b m : Nat} (hk : S.k b = .row m) (hlt : b < S.w.heap.size) (hne : ∀ r m', st.rows[r]? = some (some m') → S.r r ≠ b) : StOk (S.addRow b) { st with rows := st.rows ++ [some m] } where
  glob := (wk_addRow S b).cell _ _ h.glob
  no := h.no
  nr := by simp [Sit.addRow, h.nr]
  obj := fun i o hi => ⟨(h.obj i o hi).1, (h.obj i o hi).2.heap (wk_addRow S b) rfl⟩
  inj := h.inj
  row := fun r m' hr => by
    by_cases hl : r < st.rows.length
    · rw [List.getElem?_append_left hl] at hr
      have e : (S.addRow b).r r = S.r r := upd_other _ _ (by have := h.nr; omega)
      rw [e]; exact h.row r m' hr
    · rw [List.getElem?_append_right (by omega)] at hr
      have h0 : r - st.rows.length = 0 := by
        rcases Nat.eq_zero_or_pos (r - st.rows.length) with h0 | h0
        · exact h0
        · rw [List.getElem?_eq_none (by simp; omega)] at hr; cases hr
      rw [h0] at hr
      cases hr
      have e : (S.addRow b).r r = b := by
        have : r = S.nr := by have := h.nr; omega
        rw [this]; exact upd_same _ _ _
      rw [e]; exact ⟨hk, hlt⟩
  rinj := fun r r' m1 m2 h1 h2 he => by
    have key : ∀ r m', (st.rows ++ [some m])[r]? = some (some m') → (r < st.rows.length ∧ st.rows[r]? = some (some m') ∧ (S.addRow b).r r = S.r r) ∨ (r = st.rows.length ∧ (S.addRow b).r r = b) := by
      intro r m' hr
      by_cases hl : r < st.rows.length
      · rw [List.getElem?_append_left hl] at hr
        exact .inl ⟨hl, hr, upd_other _ _ (by have := h.nr; omega)⟩
      · rw [List.getElem?_append_right (by omega)] at hr
        have h0 : r - st.rows.length = 0 := by
          rcases Nat.eq_zero_or_pos (r - st.rows.length) with h0 | h0
          · exact h0
          · rw [List.getElem?_eq_none (by simp; omega)] at hr; cases hr
        have : r = S.nr := by have := h.nr; omega
        exact .inr ⟨by omega, by rw [this]; exact upd_same _ _ _⟩
    rcases key r m1 h1 with ⟨a1, a2, a3⟩ | ⟨a1, a3⟩ <;> rcases key r' m2 h2 with ⟨b1, b2, b3⟩ | ⟨b1, b3⟩
    · rw [a3, b3] at he; exact h.rinj r r' m1 m2 a2 b2 he
    · rw [a3, b3] at he; exact absurd he (hne r m1 a2)
    · rw [a3, b3] at he; exact absurd he.symm (hne r' m2 b2)
    · omega

/-- A row is given up: nobody may add to it. -/
def St.kill (st : St) (r : Nat) : St := { st with rows := st.rows.set r none }
theorem kill_get {st : St} {r r' m : Nat} (h : (st.kill r).rows[r']? = some (some m)) : st.rows[r']? = some (some m) ∧ r' ≠ r := by
  simp only [St.kill, List.getElem?_set] at h
  split at h
  · split at h <;> cases h
  · exact ⟨h, by omega⟩
theorem StOk.kill {S : Sit} {st : St} (h : StOk S st) (r : Nat) : StOk S (st.kill r) :=
  ⟨h.glob, h.no, by simp [St.kill, h.nr], h.obj, h.inj, fun r' m hr => h.row r' m (kill_get hr).1, fun r1 r2 m1 m2 h1 h2 he => h.rinj r1 r2 m1 m2 (kill_get h1).1 (kill_get h2).1 he⟩

/-- One block's content turns: an object's, or one that no value reads. -/
theorem wk_touch (S : Sit) {w : World} {b : Nat} (hk : S.k b = .obj ∨ S.k b = .priv) (hh : ∀ i, i ≠ b → w.heap[i]? = S.w.heap[i]?) : Wk S (S.onW w) :=
  ⟨fun a u h => by
      have hne : a.block ≠ b := by
        intro e
        have := h.2
        rw [e] at this
        rcases hk with hk | hk <;> rw [hk] at this <;> exact this
      exact ⟨by
        have : (S.onW w).w.cell? a = S.w.cell? a := World.cell?_of_block (hh _ hne)
        rw [this]; exact h.1, h.2⟩,
    fun _ _ => rfl, fun _ _ => rfl, Nat.le_refl _, Nat.le_refl _, fun c cur e m hm hc => by
      have hne : c ≠ b := by
        intro ec
        rw [ec] at hm
        rcases hk with hk | hk <;> rw [hk] at hm <;> cases hm
      exact ⟨⟨m, hm⟩, cur, (hh c hne).trans hc, rfl⟩⟩
theorem ext_touch {S0 S : Sit} (hx : Ext S0 S) {w : World} {b : Nat} (hk : S.k b = .obj ∨ (S.k b = .priv ∧ S0.w.heap.size ≤ b)) (hh : ∀ i, i ≠ b → w.heap[i]? = S.w.heap[i]?)
    (hs : w.heap.size = S.w.heap.size) (ho : w.os = S.w.os) (ht : w.tape = S.w.tape) (hp : w.output = S.w.output) : Ext S0 (S.onW w) where
  wk := hx.wk.trans (wk_touch S (hk.imp id And.left) hh)
  os := ho.trans hx.os
  tape := ht.trans hx.tape
  output := hp.trans hx.output
  size := by simp only [Sit.onW, hs]; exact hx.size
  keep := fun c hc hkc => by
    obtain ⟨h1, h2⟩ := hx.keep c hc hkc
    have hne : c ≠ b := by
      intro e
      subst e
      rcases hk with hk | ⟨_, hk⟩
      · rw [h2] at hk; rw [hk] at hkc; cases hkc
      · omega
    exact ⟨(hh c hne).trans h1, h2⟩
  row := fun c m hc hkc => hx.row c m hc hkc
  obj := fun c hc hkc => hx.obj c hc hkc
theorem StOk.touchPriv {S : Sit} {st : St} (h : StOk S st) {w : World} {b : Nat} (hk : S.k b = .priv) (hh : ∀ i, i ≠ b → w.heap[i]? = S.w.heap[i]?) (hs : w.heap.size = S.w.heap.size) : StOk (S.onW w) st :=
  ⟨(wk_touch S (.inr hk) hh).cell _ _ h.glob, h.no, h.nr, fun i ob hi => by
      have hne : S.o i ≠ b := fun e => by have := (h.obj i ob hi).1; rw [e, hk] at this; cases this
      exact ⟨(h.obj i ob hi).1, (h.obj i ob hi).2.heap (wk_touch S (.inr hk) hh) (hh _ hne)⟩,
    h.inj, fun r m hr => ⟨(h.row r m hr).1, by simp only [Sit.onW, hs]; exact (h.row r m hr).2⟩, h.rinj⟩
theorem StOk.touchObj {S : Sit} {st : St} (h : StOk S st) {w : World} {i : Nat} (hi : i < S.no) {ob : AObj} (hh : ∀ j, j ≠ S.o i → w.heap[j]? = S.w.heap[j]?) (hs : w.heap.size = S.w.heap.size)
    (ho : ORel (S.onW w) (S.o i) ob) : StOk (S.onW w) { st with mem := st.mem.set i ob } := by
  have hk := h.kind hi
  refine ⟨(wk_touch S (.inl hk) hh).cell _ _ h.glob, by simp [Sit.onW, h.no], h.nr, fun j ob' hj => ?_, h.inj, fun r m hr => ⟨(h.row r m hr).1, by simp only [Sit.onW, hs]; exact (h.row r m hr).2⟩, h.rinj⟩
  simp only [List.getElem?_set] at hj
  split at hj
  · rename_i e
    subst e
    split at hj
    · cases hj; exact ⟨hk, ho⟩
    · cases hj
  · rename_i hne
    have hjl : j < S.no := by rw [h.no]; exact (List.getElem?_eq_some_iff.1 hj).1
    have hne' : S.o j ≠ S.o i := fun e => hne (h.inj j i hjl hi e).symm
    exact ⟨(h.obj j ob' hj).1, (h.obj j ob' hj).2.heap (wk_touch S (.inl hk) hh) (hh _ hne')⟩
theorem heap_setCell_same (w : World) (b j : Nat) (v : Value) {cs : Array Value} {e : TypeId} {f : Nat × Nat} (h : w.heap[b]? = some (.cells cs e f)) : (w.setCell ⟨b, j, none⟩ v).heap[b]? = some (.cells (cs.setIfInBounds j v) e f) := by
  simp [World.setCell, Array.getElem?_modify, h]
theorem heap_setCell_size (w : World) (a : Addr) (v : Value) : (w.setCell a v).heap.size = w.heap.size := by simp [World.setCell]

end Go.Proofs.YtknocbhocdenoaaGreatDoor
