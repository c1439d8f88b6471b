/- A contract in a small state holds in a greater one: objects ahead of its own and rows of others' are left as they are. -/
import Derived.Test.YtknocbhocdenoaaGreatDoorAwY
namespace Go.Proofs.YtknocbhocdenoaaGreatDoor
open Go Go.RowKit

/-- The same value where a more objects lie ahead. -/
inductive Sh (a : Nat) : AV → AV → Prop where
  | undef : Sh a .undef .undef
  | val (v : Value) : Sh a (.val v) (.val v)
  | ptr (i off : Nat) : Sh a (.ptr i off) (.ptr (i + a) off)
  | rptr (cs ds : List AV) (off : Nat) (hl : cs.length = ds.length) (h : ∀ (j : Nat) x y, cs[j]? = some x → ds[j]? = some y → Sh a x y) : Sh a (.rptr cs off) (.rptr ds off)
  | nil : Sh a (.slice .nil [] 0) (.slice .nil [] 0)
  | slice (cs ds : List AV) (n : Nat) (hl : cs.length = ds.length) (h : ∀ (j : Nat) x y, cs[j]? = some x → ds[j]? = some y → Sh a x y) : Sh a (.slice .ro cs n) (.slice .ro ds n)
  | map (i : Nat) : Sh a (.map i) (.map (i + a))
  | osl (i off n c : Nat) : Sh a (.osl i off n c) (.osl (i + a) off n c)
  | iface (t : TypeId) (x y : AV) (h : Sh a x y) : Sh a (.iface t x) (.iface t y)
  | func (fn : Fn) (f1 c1 f2 c2 : List AV) (hl1 : f1.length = f2.length) (hl2 : c1.length = c2.length) (h1 : ∀ (j : Nat) x y, f1[j]? = some x → f2[j]? = some y → Sh a x y) (h2 : ∀ (j : Nat) x y, c1[j]? = some x → c2[j]? = some y → Sh a x y) : Sh a (.func fn f1 c1) (.func fn f2 c2)
  | agg (cs ds : List AV) (hl : cs.length = ds.length) (h : ∀ (j : Nat) x y, cs[j]? = some x → ds[j]? = some y → Sh a x y) : Sh a (.agg cs) (.agg ds)
  | tuple (cs ds : List AV) (hl : cs.length = ds.length) (h : ∀ (j : Nat) x y, cs[j]? = some x → ds[j]? = some y → Sh a x y) : Sh a (.tuple cs) (.tuple ds)
def ShL (a : Nat) (cs ds : List AV) : Prop := cs.length = ds.length ∧ ∀ (j : Nat) x y, cs[j]? = some x → ds[j]? = some y → Sh a x y
theorem ShL.nil (a : Nat) : ShL a [] [] := ⟨rfl, fun j x y h => by simp at h⟩
theorem ShL.cons {a : Nat} {x y : AV} {xs ys : List AV} (h : Sh a x y) (hs : ShL a xs ys) : ShL a (x :: xs) (y :: ys) := by
  refine ⟨by simp [hs.1], fun j u v hu hv => ?_⟩
  cases j with
  | zero => simp at hu hv; subst hu; subst hv; exact h
  | succ j => simp at hu hv; exact hs.2 j u v hu hv
inductive ShO (a : Nat) : AObj → AObj → Prop where
  | cells (cs ds : List AV) (h : ShL a cs ds) : ShO a (.cells cs) (.cells ds)
  | map (es fs : List (ByteArray × AV)) (hl : es.length = fs.length) (h : ∀ (j : Nat) p q, es[j]? = some p → fs[j]? = some q → p.1 = q.1 ∧ Sh a p.2 q.2) : ShO a (.map es) (.map fs)
def ShM (a : Nat) (m n : List AObj) : Prop := m.length = n.length ∧ ∀ (j : Nat) x y, m[j]? = some x → n[j]? = some y → ShO a x y
theorem ShM.nil (a : Nat) : ShM a [] [] := ⟨rfl, fun j x y h => by simp at h⟩
theorem ShM.cons {a : Nat} {x y : AObj} {xs ys : List AObj} (h : ShO a x y) (hs : ShM a xs ys) : ShM a (x :: xs) (y :: ys) := by
  refine ⟨by simp [hs.1], fun j u v hu hv => ?_⟩
  cases j with
  | zero => simp at hu hv; subst hu; subst hv; exact h
  | succ j => simp at hu hv; exact hs.2 j u v hu hv
inductive ShE (a : Nat) : AEnd → AEnd → Prop where
  | ret (x y : AV) (h : Sh a x y) : ShE a (.ret x) (.ret y)
  | panic (x y : AV) (h : Sh a x y) : ShE a (.panic x) (.panic y)

/-- What a callee sees: a objects fewer, no rows. -/
noncomputable def kSee (S : Sit) (a : Nat) (b : Nat) : Kind := match S.k b with
  | .row m => .part m
  | .obj => open Classical in if ∃ i, a ≤ i ∧ i < S.no ∧ S.o i = b then .obj else .priv
  | κ => κ
noncomputable def Sit.see (S : Sit) (a : Nat) : Sit := { w := S.w, k := kSee S a, o := fun i => S.o (i + a), r := S.r, no := S.no - a, nr := 0 }
theorem stable_see {S : Sit} {a : Nat} {ad : Addr} {u : Value} (h : Stable S ad u) : Stable (S.see a) ad u := by
  refine ⟨h.1, ?_⟩
  have h2 := h.2
  show (kSee S a ad.block).safe ad.off
  unfold kSee
  split
  · rename_i m hk; rw [hk] at h2; exact h2
  · rename_i hk; rw [hk] at h2; exact h2.elim
  · exact h2
theorem vrel_see {S : Sit} {a : Nat} {y : AV} {v : Value} (h : VRel S y v) : ∀ {x : AV}, Sh a x y → VRel (S.see a) x v := by
  induction h with
  | undef v => intro x hs; cases hs; exact .undef v
  | val v => intro x hs; cases hs; exact .val v
  | ptr i off h =>
    intro x hs
    cases hs with
    | ptr i off => exact VRel.ptr (S := S.see a) i off (by show i < S.no - a; omega)
  | rptr cells off ad us hl hs hr ih =>
    intro x hsh
    cases hsh with
    | rptr cs ds off hl' h' =>
      exact .rptr cs off ad us (by omega) (fun j u hj => stable_see (hs j u hj)) fun j x u hx hu => by
        obtain ⟨y, hy⟩ := get_both hl'.symm hx
        exact ih j y u hy hu (h' j x y hx hy)
  | nil own h =>
    intro x hs
    cases hs with
    | nil => exact .nil _ (by intro r hr; cases hr)
    | slice cs ds n hl' h' =>
      have : cs = [] := by simpa using hl'
      subst this
      exact .nil _ (by intro r hr; cases hr)
  | slice own cells n ad cap us hn hc hl hs hr ho ih =>
    intro x hsh
    cases hsh with
    | nil => exact absurd rfl hn
    | slice cs ds n hl' h' =>
      exact .slice _ cs n ad cap us (by intro h; cases h) hc (by omega) (fun j u hj => stable_see (hs j u hj)) (fun j x u hx hu => by
        obtain ⟨y, hy⟩ := get_both hl'.symm hx
        exact ih j y u hy hu (h' j x y hx hy)) (fun r hr => by cases hr)
  | map i h => intro x hs; cases hs with | map i => exact VRel.map (S := S.see a) i (by show i < S.no - a; omega)
  | osl i off n c h => intro x hs; cases hs with | osl i => exact VRel.osl (S := S.see a) i off n c (by show i < S.no - a; omega)
  | iface t y v h ih => intro x hs; cases hs with | iface _ x _ hx => exact .iface t x v (ih hx)
  | func fn first cap us vs h1 h2 hr1 hr2 ih1 ih2 =>
    intro x hs
    cases hs with
    | func _ f1 c1 _ _ hl1 hl2 g1 g2 =>
      exact .func fn f1 c1 us vs (by omega) (by omega) (fun j x u hx hu => by
        obtain ⟨y, hy⟩ := get_both hl1.symm hx
        exact ih1 j y u hy hu (g1 j x y hx hy)) (fun j x u hx hu => by
        obtain ⟨y, hy⟩ := get_both hl2.symm hx
        exact ih2 j y u hy hu (g2 j x y hx hy))
  | agg cs vs hl hr ih =>
    intro x hs
    cases hs with
    | agg xs _ hl' h' =>
      exact .agg xs vs (by omega) fun j x u hx hu => by
        obtain ⟨y, hy⟩ := get_both hl'.symm hx
        exact ih j y u hy hu (h' j x y hx hy)
  | tuple cs vs hl hr ih =>
    intro x hs
    cases hs with
    | tuple xs _ hl' h' =>
      exact .tuple xs vs (by omega) fun j x u hx hu => by
        obtain ⟨y, hy⟩ := get_both hl'.symm hx
        exact ih j y u hy hu (h' j x y hx hy)
theorem orel_see {S : Sit} {a b : Nat} {x y : AObj} (h : ORel S b y) (hs : ShO a x y) : ORel (S.see a) b x := by
  cases hs with
  | cells cs ds hl =>
    obtain ⟨vs, e, h1, h2⟩ := h
    exact ⟨vs, e, h1, h2.1.trans hl.1.symm, fun j x u hx hu => by
      obtain ⟨y, hy⟩ := get_both hl.1.symm hx
      exact vrel_see (h2.2 j y u hy hu) (hl.2 j x y hx hy)⟩
  | map es fs hl hh =>
    obtain ⟨en, c, h1, h2, h3⟩ := h
    refine ⟨en, c, h1, by omega, fun j p e hp he => ?_⟩
    obtain ⟨q, hq⟩ := get_both hl.symm hp
    obtain ⟨g1, g2⟩ := hh j p q hp hq
    obtain ⟨g3, g4⟩ := h3 j q e hq he
    exact ⟨by rw [g1]; exact g3, vrel_see g4 g2⟩
theorem see_other {S : Sit} {a b : Nat} {κ : Kind} (h : kSee S a b = κ) : (κ = .priv ∧ S.k b = .obj) ∨ (∃ m, κ = .part m ∧ S.k b = .row m) ∨ κ = S.k b := by
  unfold kSee at h
  split at h
  · rename_i m hk; exact .inr (.inl ⟨m, h.symm, hk⟩)
  · rename_i hk
    split at h
    · exact .inr (.inr (by rw [hk]; exact h.symm))
    · exact .inl ⟨h.symm, hk⟩
  · exact .inr (.inr h.symm)
theorem stOk_see {S : Sit} {A M N : List AObj} {R : List (Option Nat)} (h : StOk S ⟨A ++ N, R⟩) (hs : ShM A.length M N) : StOk (S.see A.length) ⟨M, []⟩ where
  glob := stable_see h.glob
  no := by show S.no - A.length = _; rw [h.no]; simp [hs.1]
  nr := rfl
  obj := fun i ob hi => by
    obtain ⟨y, hy⟩ := get_both hs.1.symm hi
    have hy' : (A ++ N)[i + A.length]? = some y := by rw [List.getElem?_append_right (by omega)]; simpa using hy
    obtain ⟨h1, h2⟩ := h.obj (i + A.length) y hy'
    refine ⟨?_, orel_see h2 (hs.2 i ob y hi hy)⟩
    show kSee S A.length (S.o (i + A.length)) = .obj
    unfold kSee
    rw [h1]
    simp only
    have hlt : i + A.length < S.no := by rw [h.no]; exact (List.getElem?_eq_some_iff.1 hy').1
    rw [if_pos ⟨i + A.length, by omega, hlt, rfl⟩]
  inj := fun i j hi hj he => by
    have hi' : i < S.no - A.length := hi
    have hj' : j < S.no - A.length := hj
    have := h.inj (i + A.length) (j + A.length) (by omega) (by omega) he
    omega
  row := fun r m hr => by simp at hr
  rinj := fun r r' m m' hr => by simp at hr

/-- Back from what the callee left. -/
def Sit.back (S S1 : Sit) (a : Nat) : Sit := { w := S1.w, k := fun b => if b < S.w.heap.size then S.k b else S1.k b, o := fun i => if i < a then S.o i else S1.o (i - a), r := S.r, no := a + S1.no, nr := S.nr }
theorem back_old {S S1 : Sit} {a b : Nat} (h : b < S.w.heap.size) : (S.back S1 a).k b = S.k b := if_pos h
theorem back_new {S S1 : Sit} {a b : Nat} (h : ¬ b < S.w.heap.size) : (S.back S1 a).k b = S1.k b := if_neg h
theorem see_keep {S S1 : Sit} {a : Nat} (hx : Ext (S.see a) S1) {b : Nat} (hb : b < S.w.heap.size) (h : (kSee S a b).still = true) : S1.w.heap[b]? = S.w.heap[b]? ∧ S1.k b = kSee S a b := hx.keep b hb h
theorem stable_back {S S1 : Sit} {a : Nat} (hx : Ext (S.see a) S1) {ad : Addr} {u : Value} (h : Stable S1 ad u) : Stable (S.back S1 a) ad u := by
  refine ⟨h.1, ?_⟩
  by_cases hb : ad.block < S.w.heap.size
  · rw [back_old hb]
    have h2 := h.2
    cases hk : S.k ad.block with
    | fixed => trivial
    | part m =>
      have hs : kSee S a ad.block = .part m := by unfold kSee; rw [hk]
      rw [(see_keep hx hb (by rw [hs]; rfl)).2, hs] at h2; exact h2
    | row m =>
      have hs : kSee S a ad.block = .part m := by unfold kSee; rw [hk]
      rw [(see_keep hx hb (by rw [hs]; rfl)).2, hs] at h2; exact h2
    | priv =>
      have hs : kSee S a ad.block = .priv := by unfold kSee; rw [hk]
      rw [(see_keep hx hb (by rw [hs]; rfl)).2, hs] at h2; exact h2.elim
    | obj =>
      rcases see_other (S := S) (a := a) (b := ad.block) rfl with ⟨h1, _⟩ | ⟨m, _, h1⟩ | h1
      · rw [(see_keep hx hb (by rw [h1]; rfl)).2, h1] at h2; exact h2.elim
      · rw [hk] at h1; cases h1
      · rw [hk] at h1
        rw [hx.obj ad.block hb h1] at h2; exact h2.elim
  · rw [back_new hb]; exact h.2
theorem vrel_back {S S1 : Sit} {a : Nat} (hx : Ext (S.see a) S1) {x : AV} {v : Value} (h : VRel S1 x v) : ∀ {y : AV}, Sh a x y → VRel (S.back S1 a) y v := by
  have hp : ∀ i, (S.back S1 a).o (i + a) = S1.o i := fun i => by
    show (if i + a < a then S.o (i + a) else S1.o (i + a - a)) = S1.o i
    rw [if_neg (by omega)]; congr 1; omega
  have hn : ∀ i, i < S1.no → i + a < (S.back S1 a).no := fun i hi => by show i + a < a + S1.no; omega
  induction h with
  | undef v => intro y hs; cases hs; exact .undef v
  | val v => intro y hs; cases hs; exact .val v
  | ptr i off h => intro y hs; cases hs; rw [← hp i]; exact .ptr _ off (hn i h)
  | rptr cells off ad us hl hs hr ih =>
    intro y hsh
    cases hsh with
    | rptr cs ds off hl' h' =>
      exact .rptr ds off ad us (by omega) (fun j u hj => stable_back hx (hs j u hj)) fun j y u hy hu => by
        obtain ⟨x, hx'⟩ := get_both hl' hy
        exact ih j x u hx' hu (h' j x y hx' hy)
  | nil own h =>
    intro y hs
    cases hs with
    | nil => exact .nil _ (by intro r hr; cases hr)
    | slice cs ds n hl' h' =>
      have : ds = [] := by simpa using hl'.symm
      subst this
      exact .nil _ (by intro r hr; cases hr)
  | slice own cells n ad cap us hn hc hl hs hr ho ih =>
    intro y hsh
    cases hsh with
    | nil => exact absurd rfl hn
    | slice cs ds n hl' h' =>
      exact .slice _ ds n ad cap us (by intro h; cases h) hc (by omega) (fun j u hj => stable_back hx (hs j u hj)) (fun j y u hy hu => by
        obtain ⟨x, hx'⟩ := get_both hl' hy
        exact ih j x u hx' hu (h' j x y hx' hy)) (fun r hr => by cases hr)
  | map i h => intro y hs; cases hs; rw [← hp i]; exact .map _ (hn i h)
  | osl i off n c h => intro y hs; cases hs; rw [← hp i]; exact .osl _ off n c (hn i h)
  | iface t x v h ih => intro y hs; cases hs with | iface _ _ y hy => exact .iface t y v (ih hy)
  | func fn first cap us vs h1 h2 hr1 hr2 ih1 ih2 =>
    intro y hs
    cases hs with
    | func _ _ _ f2 c2 hl1 hl2 g1 g2 =>
      exact .func fn f2 c2 us vs (by omega) (by omega) (fun j y u hy hu => by
        obtain ⟨x, hx'⟩ := get_both hl1 hy
        exact ih1 j x u hx' hu (g1 j x y hx' hy)) (fun j y u hy hu => by
        obtain ⟨x, hx'⟩ := get_both hl2 hy
        exact ih2 j x u hx' hu (g2 j x y hx' hy))
  | agg cs vs hl hr ih =>
    intro y hs
    cases hs with
    | agg _ ys hl' h' =>
      exact .agg ys vs (by omega) fun j y u hy hu => by
        obtain ⟨x, hx'⟩ := get_both hl' hy
        exact ih j x u hx' hu (h' j x y hx' hy)
  | tuple cs vs hl hr ih =>
    intro y hs
    cases hs with
    | tuple _ ys hl' h' =>
      exact .tuple ys vs (by omega) fun j y u hy hu => by
        obtain ⟨x, hx'⟩ := get_both hl' hy
        exact ih j x u hx' hu (h' j x y hx' hy)
theorem orel_back {S S1 : Sit} {a b : Nat} (hx : Ext (S.see a) S1) {x y : AObj} (h : ORel S1 b x) (hs : ShO a x y) : ORel (S.back S1 a) b y := by
  cases hs with
  | cells cs ds hl =>
    obtain ⟨vs, e, h1, h2⟩ := h
    exact ⟨vs, e, h1, h2.1.trans hl.1, fun j y u hy hu => by
      obtain ⟨x, hx'⟩ := get_both hl.1 hy
      exact vrel_back hx (h2.2 j x u hx' hu) (hl.2 j x y hx' hy)⟩
  | map es fs hl hh =>
    obtain ⟨en, c, h1, h2, h3⟩ := h
    refine ⟨en, c, h1, by omega, fun j q e hq he => ?_⟩
    obtain ⟨p, hp⟩ := get_both hl hq
    obtain ⟨g1, g2⟩ := hh j p q hp hq
    obtain ⟨g3, g4⟩ := h3 j p e hp he
    exact ⟨by rw [← g1]; exact g3, vrel_back hx g4 g2⟩
theorem ext_back {S S1 : Sit} {a : Nat} (ha : a ≤ S.no) (hx : Ext (S.see a) S1) : Ext S (S.back S1 a) := by
  have hst : ∀ b, b < S.w.heap.size → S.k b ≠ .obj → S1.w.heap[b]? = S.w.heap[b]? := fun b hb hk => by
    refine (see_keep hx hb ?_).1
    unfold kSee
    split
    · rfl
    · rename_i h; exact absurd h hk
    · rename_i h1 h2
      cases hkb : S.k b with
      | row m => exact absurd hkb (h1 m)
      | obj => exact absurd hkb h2
      | _ => rfl
  refine ⟨⟨fun ad u h => ?_, fun i hi => ?_, fun _ _ => rfl, ?_, Nat.le_refl _, fun b cur e m hk hb => ?_⟩, hx.os, hx.tape, hx.output, hx.size, fun b hb hk => ⟨hst b hb (fun h => by rw [h] at hk; cases hk), back_old hb⟩, fun b m hb hk => ⟨m, Nat.le_refl _, by rw [back_old hb]; exact hk⟩, fun b hb hk => by rw [back_old hb]; exact hk⟩
  · have hb := cell_lt h.1
    refine ⟨?_, by rw [back_old hb]; exact h.2⟩
    have : S1.w.cell? ad = S.w.cell? ad := World.cell?_of_block (hst _ hb (fun hk => by have := h.2; rw [hk] at this; exact this))
    exact this.trans h.1
  · show (if i < a then S.o i else S1.o (i - a)) = S.o i
    split
    · rfl
    · have : S1.o (i - a) = S.o (i - a + a) := hx.wk.o (i - a) (by show i - a < S.no - a; omega)
      rw [this]; congr 1; omega
  · show S.no ≤ a + S1.no
    have := hx.wk.no
    have h2 : S.no - a ≤ S1.no := this
    omega
  · have hlt : b < S.w.heap.size := (Array.getElem?_eq_some_iff.1 hb).1
    exact ⟨⟨m, by rw [back_old hlt]; exact hk⟩, cur, (hst b hlt (fun h => by rw [h] at hk; cases hk)).trans hb, rfl⟩
theorem stOk_back {S S1 : Sit} {A N M' N' : List AObj} {R : List (Option Nat)} (h : StOk S ⟨A ++ N, R⟩) (hx : Ext (S.see A.length) S1) (h1 : StOk S1 ⟨M', []⟩) (hs : ShM A.length M' N') : StOk (S.back S1 A.length) ⟨A ++ N', R⟩ := by
  have ha : A.length ≤ S.no := by rw [h.no]; simp
  have hX := ext_back ha hx
  have hid : ∀ i, i < A.length → S1.k (S.o i) = .priv ∧ S1.w.heap[S.o i]? = S.w.heap[S.o i]? ∧ S.o i < S.w.heap.size := fun i hi => by
    have hin : i < S.no := by omega
    have hlt := h.lt hin
    have hk := h.kind hin
    have hs : kSee S A.length (S.o i) = .priv := by
      unfold kSee
      rw [hk]
      simp only
      rw [if_neg]
      rintro ⟨j, hj, hjn, he⟩
      have := h.inj j i hjn hin he
      omega
    obtain ⟨g1, g2⟩ := see_keep hx hlt (by rw [hs]; rfl)
    exact ⟨g2.trans hs, g1, hlt⟩
  have hob : ∀ b, b < S.w.heap.size → S1.k b = .obj → S.k b = .obj := fun b hb hk => by
    cases hkb : S.k b with
    | obj => rfl
    | row m =>
      have hs : kSee S A.length b = .part m := by unfold kSee; rw [hkb]
      rw [(see_keep hx hb (by rw [hs]; rfl)).2, hs] at hk; cases hk
    | fixed =>
      have hs : kSee S A.length b = .fixed := by unfold kSee; rw [hkb]
      rw [(see_keep hx hb (by rw [hs]; rfl)).2, hs] at hk; cases hk
    | part m =>
      have hs : kSee S A.length b = .part m := by unfold kSee; rw [hkb]
      rw [(see_keep hx hb (by rw [hs]; rfl)).2, hs] at hk; cases hk
    | priv =>
      have hs : kSee S A.length b = .priv := by unfold kSee; rw [hkb]
      rw [(see_keep hx hb (by rw [hs]; rfl)).2, hs] at hk; cases hk
  have oo : ∀ i, i < A.length → (S.back S1 A.length).o i = S.o i := fun i hi => if_pos hi
  have on : ∀ i, ¬ i < A.length → (S.back S1 A.length).o i = S1.o (i - A.length) := fun i hi => if_neg hi
  refine ⟨hX.wk.cell _ _ h.glob, ?_, h.nr, fun i ob hi => ?_, fun i j hi hj he => ?_, fun r m hr => ⟨?_, Nat.lt_of_lt_of_le (h.row r m hr).2 hx.size⟩, h.rinj⟩
  · show A.length + S1.no = _
    rw [h1.no]; simp [hs.1]
  · by_cases hlt : i < A.length
    · have hi' : (A ++ N)[i]? = some ob := by rw [List.getElem?_append_left hlt] at hi ⊢; exact hi
      obtain ⟨g1, g2⟩ := h.obj i ob hi'
      rw [oo i hlt]
      obtain ⟨_, g4, g5⟩ := hid i hlt
      exact ⟨by rw [back_old g5]; exact g1, g2.heap hX.wk g4⟩
    · rw [List.getElem?_append_right (by omega)] at hi
      obtain ⟨x, hx'⟩ := get_both hs.1 hi
      obtain ⟨g1, g2⟩ := h1.obj _ x hx'
      rw [on i hlt]
      refine ⟨?_, orel_back hx g2 (hs.2 _ x ob hx' hi)⟩
      by_cases hb : S1.o (i - A.length) < S.w.heap.size
      · rw [back_old hb]; exact hob _ hb g1
      · rw [back_new hb]; exact g1
  · have hi' : i < A.length + S1.no := hi
    have hj' : j < A.length + S1.no := hj
    by_cases hia : i < A.length <;> by_cases hja : j < A.length
    · rw [oo i hia, oo j hja] at he; exact h.inj i j (by omega) (by omega) he
    · rw [oo i hia, on j hja] at he
      have := h1.kind (i := j - A.length) (by omega)
      rw [← he, (hid i hia).1] at this; cases this
    · rw [on i hia, oo j hja] at he
      have := h1.kind (i := i - A.length) (by omega)
      rw [he, (hid j hja).1] at this; cases this
    · rw [on i hia, on j hja] at he
      have := h1.inj _ _ (by omega) (by omega) he
      omega
  · have := h.row r m hr
    show (S.back S1 A.length).k (S.r r) = .row m
    rw [back_old this.2]; exact this.1
theorem endRel_back {S S1 : Sit} {a : Nat} (hx : Ext (S.see a) S1) {e1 e : AEnd} (hs : ShE a e1 e) {en : Ending} (h : EndRel S1 e1 en) : EndRel (S.back S1 a) e en := by
  cases hs with
  | ret x y hs => cases en <;> first | exact vrel_back hx h hs | exact h.elim
  | panic x y hs =>
    cases en with
    | panicked c => obtain ⟨v, hc, hv⟩ := h; exact ⟨v, hc, vrel_back hx hv hs⟩
    | _ => exact h.elim
/-- THE FRAME. -/
theorem good_shift {P : Program} {f : FuncId} {args args' : List AV} {M M' N N' : List AObj} {e e' : AEnd} (h : Good P f args ⟨M, []⟩ e ⟨M', []⟩) (A : List AObj) (R : List (Option Nat)) (ha : ShL A.length args args') (hM : ShM A.length M N) (hM' : ShM A.length M' N') (he : ShE A.length e e') :
    Good P f args' ⟨A ++ N, R⟩ e' ⟨A ++ N', R⟩ := by
  have hr : ∀ {S : Sit} {vs : List Value}, Rels S args' vs → Rels (S.see A.length) args vs := fun {S vs} hv => ⟨hv.1.trans ha.1.symm, fun j x u hx hu => by
    obtain ⟨y, hy⟩ := get_both ha.1.symm hx
    exact vrel_see (hv.2 j y u hy hu) (ha.2 j x y hx hy)⟩
  rcases h with ⟨hc, h⟩ | ⟨r, rfl, h⟩
  · refine .inl ⟨hc, fun S vs hst hv => ?_⟩
    refine (h (S.see A.length) vs (stOk_see hst hM) (hr hv)).mono ?_
    rintro en w' ⟨S1, rfl, hx, hst1, hend⟩
    exact ⟨S.back S1 A.length, rfl, ext_back (by rw [hst.no]; simp) hx, stOk_back hst hx hst1 hM', endRel_back hx he hend⟩
  · cases he with
    | ret x y hs =>
      refine .inr ⟨y, rfl, fun S vs hst hv => ?_⟩
      obtain ⟨v, S1, hrun, hx, hst1, hv1⟩ := h (S.see A.length) vs (stOk_see hst hM) (hr hv)
      exact ⟨v, S.back S1 A.length, hrun, ext_back (by rw [hst.no]; simp) hx, stOk_back hst hx hst1 hM', vrel_back hx hv1 hs⟩

/-- Values that name no object and no row. -/
inductive Cln : AV → Prop where
  | undef : Cln .undef
  | val (v : Value) : Cln (.val v)
  | rptr (cs : List AV) (off : Nat) (h : ∀ x ∈ cs, Cln x) : Cln (.rptr cs off)
  | nil : Cln (.slice .nil [] 0)
  | slice (cs : List AV) (n : Nat) (h : ∀ x ∈ cs, Cln x) : Cln (.slice .ro cs n)
  | iface (t : TypeId) (x : AV) (h : Cln x) : Cln (.iface t x)
  | func (fn : Fn) (f c : List AV) (h1 : ∀ x ∈ f, Cln x) (h2 : ∀ x ∈ c, Cln x) : Cln (.func fn f c)
  | agg (cs : List AV) (h : ∀ x ∈ cs, Cln x) : Cln (.agg cs)
  | tuple (cs : List AV) (h : ∀ x ∈ cs, Cln x) : Cln (.tuple cs)
theorem Cln.sh {a : Nat} {x : AV} (h : Cln x) : Sh a x x := by
  have key : ∀ {cs : List AV}, (∀ x ∈ cs, Sh a x x) → ∀ (j : Nat) x y, cs[j]? = some x → cs[j]? = some y → Sh a x y := by
    intro cs h j x y hx hy
    rw [hx] at hy
    cases hy
    exact h x (List.mem_iff_getElem?.2 ⟨j, hx⟩)
  induction h with
  | undef => exact .undef
  | val v => exact .val v
  | rptr cs off h ih => exact .rptr cs cs off rfl (key ih)
  | nil => exact .nil
  | slice cs n h ih => exact .slice cs cs n rfl (key ih)
  | iface t x h ih => exact .iface t x x ih
  | func fn f c h1 h2 ih1 ih2 => exact .func fn f c f c rfl rfl (key ih1) (key ih2)
  | agg cs h ih => exact .agg cs cs rfl (key ih)
  | tuple cs h ih => exact .tuple cs cs rfl (key ih)
def AEnd.v : AEnd → AV
  | .ret v | .panic v => v
/-- A contract without memory holds in every state. -/
theorem good_pure {P : Program} {f : FuncId} {args : List AV} {e : AEnd} (h : Good P f args ⟨[], []⟩ e ⟨[], []⟩) (ha : ∀ x ∈ args, Cln x) (he : Cln e.v) (st : St) : Good P f args st e st := by
  have := good_shift h st.mem st.rows (args' := args) (N := []) (N' := []) (e' := e) ⟨rfl, fun j x y hx hy => by rw [hx] at hy; cases hy; exact (ha x (List.mem_iff_getElem?.2 ⟨j, hx⟩)).sh⟩ (.nil _) (.nil _) (by cases e <;> constructor <;> exact he.sh)
  simpa using this
/-- Weaker arguments. -/
theorem good_args {P : Program} {f : FuncId} {args args' : List AV} {st st' : St} {e : AEnd} (ha : ∀ S vs, StOk S st → Rels S args vs → Rels S args' vs) (h : Good P f args' st e st') : Good P f args st e st' := by
  rcases h with ⟨hc, h⟩ | ⟨r, rfl, h⟩
  · exact .inl ⟨hc, fun S vs hst hv => h S vs hst (ha S _ hst hv)⟩
  · exact .inr ⟨r, rfl, fun S vs hst hv => h S vs hst (ha S _ hst hv)⟩
end Go.Proofs.YtknocbhocdenoaaGreatDoor
