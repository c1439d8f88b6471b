/- What was made and is reached by nobody any more may be forgotten: objects and rows behind the first so many. -/
import Derived.Test.YtknocbhocdenoaaGreatDoorAwP
namespace Go.Proofs.YtknocbhocdenoaaGreatDoor
open Go Go.RowKit

/-- Nothing behind object number m, row number n is named. -/
inductive Bd (m n : Nat) : AV → Prop where
  | undef : Bd m n .undef
  | val (v : Value) : Bd m n (.val v)
  | ptr (i off : Nat) (h : i < m) : Bd m n (.ptr i off)
  | rptr (cs : List AV) (off : Nat) (h : ∀ (j : Nat) a, cs[j]? = some a → Bd m n a) : Bd m n (.rptr cs off)
  | slice (own : Own) (cs : List AV) (k : Nat) (ho : ∀ r, own = .row r → r < n) (h : ∀ (j : Nat) a, cs[j]? = some a → Bd m n a) : Bd m n (.slice own cs k)
  | map (i : Nat) (h : i < m) : Bd m n (.map i)
  | osl (i off k c : Nat) (h : i < m) : Bd m n (.osl i off k c)
  | iface (t : TypeId) (a : AV) (h : Bd m n a) : Bd m n (.iface t a)
  | func (fn : Fn) (first cap : List AV) (h1 : ∀ (j : Nat) a, first[j]? = some a → Bd m n a) (h2 : ∀ (j : Nat) a, cap[j]? = some a → Bd m n a) : Bd m n (.func fn first cap)
  | agg (cs : List AV) (h : ∀ (j : Nat) a, cs[j]? = some a → Bd m n a) : Bd m n (.agg cs)
  | tuple (cs : List AV) (h : ∀ (j : Nat) a, cs[j]? = some a → Bd m n a) : Bd m n (.tuple cs)

theorem get_both {α β : Type} {xs : List α} {ys : List β} (hl : ys.length = xs.length) {j : Nat} {a : α} (h : xs[j]? = some a) : ∃ b, ys[j]? = some b := by
  have hj : j < xs.length := (List.getElem?_eq_some_iff.1 h).1
  exact ⟨ys[j]'(by omega), List.getElem?_eq_getElem _⟩
theorem get_both' {α β : Type} {xs : List α} {ys : Array β} (hl : ys.size = xs.length) {j : Nat} {a : α} (h : xs[j]? = some a) : ∃ b, ys[j]? = some b := by
  have hj : j < xs.length := (List.getElem?_eq_some_iff.1 h).1
  exact ⟨ys[j]'(by omega), Array.getElem?_eq_getElem _⟩
theorem vrel_bd {S : Sit} {a : AV} {v : Value} (h : VRel S a v) : Bd S.no S.nr a := by
  induction h with
  | undef v => exact .undef
  | val v => exact .val v
  | ptr i off h => exact .ptr i off h
  | rptr cells off ad us hl hs hr ih =>
    exact .rptr _ _ fun j a ha => by
      obtain ⟨u, hu⟩ := get_both hl ha
      exact ih j a u ha hu
  | nil own h => exact .slice _ _ _ (fun r hr => absurd hr (h r)) (fun j a ha => by simp at ha)
  | slice own cells n ad cap us hn hc hl hs hr ho ih =>
    exact .slice _ _ _ (fun r hr => (ho r hr).1) fun j a ha => by
      obtain ⟨u, hu⟩ := get_both hl ha
      exact ih j a u ha hu
  | map i h => exact .map i h
  | osl i off n c h => exact .osl i off n c h
  | iface t a v h ih => exact .iface _ _ ih
  | func fn first cap us vs h1 h2 hr1 hr2 ih1 ih2 =>
    exact .func _ _ _ (fun j a ha => by obtain ⟨u, hu⟩ := get_both' h1 ha; exact ih1 j a u ha hu) (fun j a ha => by obtain ⟨u, hu⟩ := get_both' h2 ha; exact ih2 j a u ha hu)
  | agg cs vs hl hr ih => exact .agg _ fun j a ha => by obtain ⟨u, hu⟩ := get_both' hl ha; exact ih j a u ha hu
  | tuple cs vs hl hr ih => exact .tuple _ fun j a ha => by obtain ⟨u, hu⟩ := get_both' hl ha; exact ih j a u ha hu

def Sit.cut (S : Sit) (m n : Nat) : Sit := { S with no := m, nr := n }
theorem stable_cut {S : Sit} {m n : Nat} {a : Addr} {u : Value} (h : Stable S a u) : Stable (S.cut m n) a u := h
theorem vrel_cut {S : Sit} {m n : Nat} {a : AV} {v : Value} (h : VRel S a v) (hb : Bd m n a) : VRel (S.cut m n) a v := by
  induction h with
  | undef v => exact .undef v
  | val v => exact .val v
  | ptr i off h => cases hb with | ptr _ _ hi => exact .ptr (S := S.cut m n) i off hi
  | rptr cells off ad us hl hs hr ih => cases hb with | rptr _ _ hc => exact .rptr _ _ _ us hl hs fun j a u ha hu => ih j a u ha hu (hc j a ha)
  | nil own h => exact .nil own h
  | slice own cells k ad cap us hn hc hl hs hr ho ih =>
    cases hb with
    | slice _ _ _ hor hcb =>
      exact .slice _ _ _ _ _ us hn hc hl hs (fun j a u ha hu => ih j a u ha hu (hcb j a ha)) fun r hr => by
        obtain ⟨h1, h2⟩ := ho r hr
        exact ⟨hor r hr, h2⟩
  | map i h => cases hb with | map _ hi => exact .map (S := S.cut m n) i hi
  | osl i off k c h => cases hb with | osl _ _ _ _ hi => exact .osl (S := S.cut m n) i off k c hi
  | iface t a v h ih => cases hb with | iface _ _ hb => exact .iface _ _ _ (ih hb)
  | func fn first cap us vs h1 h2 hr1 hr2 ih1 ih2 =>
    cases hb with
    | func _ _ _ b1 b2 => exact .func _ _ _ us vs h1 h2 (fun j a u ha hu => ih1 j a u ha hu (b1 j a ha)) (fun j a u ha hu => ih2 j a u ha hu (b2 j a ha))
  | agg cs vs hl hr ih => cases hb with | agg _ hc => exact .agg _ vs hl fun j a u ha hu => ih j a u ha hu (hc j a ha)
  | tuple cs vs hl hr ih => cases hb with | tuple _ hc => exact .tuple _ vs hl fun j a u ha hu => ih j a u ha hu (hc j a ha)

def BdO (m n : Nat) : AObj → Prop
  | .cells cs => ∀ (j : Nat) a, cs[j]? = some a → Bd m n a
  | .map es => ∀ (j : Nat) (kv : ByteArray × AV), es[j]? = some kv → Bd m n kv.2
theorem orel_bd {S : Sit} {b : Nat} {ob : AObj} (h : ORel S b ob) : BdO S.no S.nr ob := by
  cases ob with
  | cells cs =>
    obtain ⟨vs, e, h1, h2⟩ := h
    exact fun j a ha => by
      obtain ⟨u, hu, hr⟩ := h2.get ha
      exact vrel_bd hr
  | map es =>
    obtain ⟨en, c, h1, h2, h3⟩ := h
    exact fun j kv hj => by
      obtain ⟨u, hu⟩ := get_both' h2 hj
      exact vrel_bd (h3 j kv u hj hu).2
theorem orel_cut {S : Sit} {m n b : Nat} {ob : AObj} (h : ORel S b ob) (hb : BdO m n ob) : ORel (S.cut m n) b ob := by
  cases ob with
  | cells cs =>
    obtain ⟨vs, e, h1, h2⟩ := h
    exact ⟨vs, e, h1, h2.1, fun j a u ha hu => vrel_cut (h2.2 j a u ha hu) (hb j a ha)⟩
  | map es =>
    obtain ⟨en, c, h1, h2, h3⟩ := h
    exact ⟨en, c, h1, h2, fun j kv x hj hx => ⟨(h3 j kv x hj hx).1, vrel_cut (h3 j kv x hj hx).2 (hb j kv hj)⟩⟩

/-- st' is st1 without what lies behind; what is left names nothing of that. -/
structure Cut (st st1 st' : St) : Prop where
  mem : ∀ (i : Nat) (ob : AObj), st'.mem[i]? = some ob → st1.mem[i]? = some ob ∧ (st.mem[i]? = some ob ∨ BdO st'.mem.length st'.rows.length ob)
  rows : ∀ (r m : Nat), st'.rows[r]? = some (some m) → st1.rows[r]? = some (some m)
  lm : st.mem.length ≤ st'.mem.length
  lr : st.rows.length ≤ st'.rows.length
  lm1 : st'.mem.length ≤ st1.mem.length
  lr1 : st'.rows.length ≤ st1.rows.length
theorem Bd.mono {m n m' n' : Nat} (hm : m ≤ m') (hn : n ≤ n') {a : AV} (h : Bd m n a) : Bd m' n' a := by
  induction h with
  | undef => exact .undef
  | val v => exact .val v
  | ptr i off h => exact .ptr i off (by omega)
  | rptr cs off h ih => exact .rptr _ _ ih
  | slice own cs k ho h ih => exact .slice _ _ _ (fun r hr => Nat.lt_of_lt_of_le (ho r hr) hn) ih
  | map i h => exact .map i (by omega)
  | osl i off k c h => exact .osl i off k c (by omega)
  | iface t a h ih => exact .iface _ _ ih
  | func fn first cap h1 h2 ih1 ih2 => exact .func _ _ _ ih1 ih2
  | agg cs h ih => exact .agg _ ih
  | tuple cs h ih => exact .tuple _ ih
theorem BdO.mono {m n m' n' : Nat} (hm : m ≤ m') (hn : n ≤ n') {ob : AObj} (h : BdO m n ob) : BdO m' n' ob := by
  cases ob with
  | cells cs => exact fun j a ha => (h j a ha).mono hm hn
  | map es => exact fun j kv hj => (h j kv hj).mono hm hn
theorem stOk_cut {S0 S : Sit} {st st1 st' : St} (h0 : StOk S0 st) (h1 : StOk S st1) (hc : Cut st st1 st') : StOk (S.cut st'.mem.length st'.rows.length) st' where
  glob := h1.glob
  no := rfl
  nr := rfl
  obj := fun i ob hi => by
    obtain ⟨g1, g2⟩ := hc.mem i ob hi
    obtain ⟨hk, ho⟩ := h1.obj i ob g1
    refine ⟨hk, orel_cut ho ?_⟩
    rcases g2 with g2 | g2
    · have := orel_bd (h0.obj i ob g2).2
      rw [h0.no, h0.nr] at this
      exact this.mono hc.lm hc.lr
    · exact g2
  inj := fun i j hi hj he => h1.inj i j (by rw [h1.no]; exact Nat.lt_of_lt_of_le hi hc.lm1) (by rw [h1.no]; exact Nat.lt_of_lt_of_le hj hc.lm1) he
  row := fun r m hr => h1.row r m (hc.rows r m hr)
  rinj := fun r r' m m' hr hr' he => h1.rinj r r' m m' (hc.rows r m hr) (hc.rows r' m' hr') he
theorem ext_cut {S0 S : Sit} (hx : Ext S0 S) {m n : Nat} (hm : S0.no ≤ m) (hn : S0.nr ≤ n) : Ext S0 (S.cut m n) :=
  ⟨⟨hx.wk.cell, hx.wk.o, hx.wk.r, hm, hn, hx.wk.shape⟩, hx.os, hx.tape, hx.output, hx.size, hx.keep, hx.row, hx.obj⟩

def ECut (m n : Nat) : AEnd → AEnd → Prop
  | .ret a, .ret b | .panic a, .panic b => ∀ S v, VRel S a v → VRel (S.cut m n) b v
  | _, _ => False
theorem lv_cut {st st1 st' : St} {e e1 : AEnd} (hc : Cut st st1 st') (he : ECut st'.mem.length st'.rows.length e1 e) : Lv st st' e e1 st1 := by
  intro S0 S en h0 hx h1 hr
  refine ⟨S.cut st'.mem.length st'.rows.length, rfl, ext_cut hx (by rw [h0.no]; exact hc.lm) (by rw [h0.nr]; exact hc.lr), stOk_cut h0 h1 hc, ?_⟩
  cases e1 with
  | ret a =>
    cases e with
    | ret b => cases en <;> first | exact he S _ hr | exact hr.elim
    | panic b => exact he.elim
  | panic a =>
    cases e with
    | ret b => exact he.elim
    | panic b =>
      cases en with
      | panicked c => obtain ⟨u, rfl, hu⟩ := hr; exact ⟨u, rfl, he S _ hu⟩
      | _ => exact hr.elim
/-- A function that leaves the state as it was. -/
theorem cut_same {st st1 : St} (hm : st1.mem.take st.mem.length = st.mem) (hr : st1.rows.take st.rows.length = st.rows) : Cut st st1 st where
  mem := fun i ob hi => ⟨by
    have hlt : i < st.mem.length := (List.getElem?_eq_some_iff.1 hi).1
    rw [← hm, List.getElem?_take, if_pos hlt] at hi; exact hi, .inl hi⟩
  rows := fun r m h => by
    have hlt : r < st.rows.length := (List.getElem?_eq_some_iff.1 h).1
    rw [← hr, List.getElem?_take, if_pos hlt] at h; exact h
  lm := Nat.le_refl _
  lr := Nat.le_refl _
  lm1 := by have := congrArg List.length hm; simp at this; omega
  lr1 := by have := congrArg List.length hr; simp at this; omega
/-- Slices that are added to no more are only read; objects are nobody's. -/
theorem vrel_ro {S : Sit} {own : Own} {cs : List AV} {n : Nat} {v : Value} (h : VRel S (.slice own cs n) v) : VRel S (.slice .ro cs n) v := by
  cases h with
  | nil _ h => exact .nil _ (by intro r hr; cases hr)
  | slice _ _ _ ad cap us hn hc hl hs hr ho => exact .slice _ _ _ ad cap us (by intro h; cases h) hc hl hs hr (fun r h => by cases h)
end Go.Proofs.YtknocbhocdenoaaGreatDoor
