/- Regions whose order is drawn: operations that look at no memory that others turn may be taken first. -/
import Derived.Test.YtknocbhocdenoaaGreatDoorAwM
import Derived.OrdersHeld
namespace Go.Proofs.YtknocbhocdenoaaGreatDoor
open Go Go.RowKit

section
variable {P : Program} {ops : Array Oper} {Q : Exit → Act → World → Prop} {F : Nat → Sit → Sit → Prop} {R : Sit → Sit → Prop}

/-- Whatever comes up, from a situation on; the step of number i goes to a situation that F i allows. -/
def wpS (P : Program) (ops : Array Oper) (Q : Exit → Act → World → Prop) (F : Nat → Sit → Sit → Prop) : Nat → Array Bool → Sit → Act → Prop
  | 0, listed, S, a => Region.ready .any ops listed = [] ∧ Q .normal a S.w
  | n + 1, listed, S, a => (Region.ready .any ops listed = [] → Q .normal a S.w) ∧
    ∀ i ∈ Region.ready .any ops listed, wpOp P ops Q i (fun a' w' => ∃ S', S'.w = w' ∧ F i S S' ∧ wpS P ops Q F n (listed.setIfInBounds i true) S' a') a S.w
theorem wpAny_of_wpS : ∀ (n : Nat) (listed : Array Bool) (S : Sit) (a : Act), wpS P ops Q F n listed S a → wpAny P .any ops Q n listed a S.w
  | 0, _, _, _, h => h
  | n + 1, _, _, _, h => ⟨h.1, fun i hi => wpOp_mono (fun a' w' ⟨S', hw, _, h'⟩ => hw ▸ wpAny_of_wpS n _ S' a' h') (h.2 i hi)⟩
def After (R : Sit → Sit → Prop) (S : Sit) (w : World) : Prop := ∃ S', S'.w = w ∧ R S S'
theorem YieldsIf.later (ht : ∀ S S' S'', R S S' → R S' S'' → R S S'') {o : Oper} {v : Value} {a : Act} {S S' : Sit} (h : YieldsIf P ops (After R S) o v a) (hr : R S S') : YieldsIf P ops (After R S') o v a :=
  h.imp (fun ⟨h1, h2⟩ => ⟨h1, fun w ⟨S'', hw, hr'⟩ => h2 w ⟨S'', hw, ht _ _ _ hr hr'⟩⟩) id
theorem wpS_first (hrf : ∀ S, R S S) (ht : ∀ S S' S'', R S S' → R S' S'' → R S S'') {i : Nat} (hFi : ∀ S, F i S S) {oi : Oper} {v : Value} (hi : ops[i]? = some oi) (hsel : ∀ (j : Nat) (o : Oper) cs b, ops[j]? = some o → o.op ≠ .select cs b)
    (hQ : ∀ c a w, Q (.panic c) (a.put oi.dst v) w → Q (.panic c) a w) : ∀ (n : Nat) (listed : Array Bool) (S : Sit) (a : Act),
      (∀ j oj, ops[j]? = some oj → j ≠ i → listed.getD j true = false → (∀ e ∈ oj.after, Region.binds .any e = true → e.on ≠ i) → oi.apart ops oj = true ∧ ∀ S S', F j S S' → R S S') →
      i ∈ Region.ready .any ops listed → YieldsIf P ops (After R S) oi v a →
      wpS P ops Q F n (listed.setIfInBounds i true) S (a.put oi.dst v) → wpS P ops Q F (n + 1) listed S a
  | 0, listed, S, a, hfree, hr, hy, H => by
    refine ⟨fun h => (by rw [h] at hr; cases hr), fun j hj => ?_⟩
    by_cases hji : j = i
    · subst hji; exact hy.wpOp hi ⟨S, rfl, hrf S⟩ ⟨S, rfl, hFi S, H⟩
    · have := ready_mono hj hji
      rw [H.1] at this
      cases this
  | n + 1, listed, S, a, hfree, hr, hy, H => by
    refine ⟨fun h => (by rw [h] at hr; cases hr), fun j hj => ?_⟩
    by_cases hji : j = i
    · subst hji; exact hy.wpOp hi ⟨S, rfl, hrf S⟩ ⟨S, rfl, hFi S, H⟩
    · have h1 := H.2 j (ready_mono hj hji)
      obtain ⟨hjun, oj, hoj, hall⟩ := mem_ready.1 hj
      have hnot : ∀ e ∈ oj.after, Region.binds .any e = true → e.on ≠ i := fun e he hb heq => by
        have g1 := hall e he hb
        have g0 := (mem_ready.1 hr).1
        rw [heq] at g1
        rcases Nat.lt_or_ge i listed.size with h' | h'
        · simp [h'] at g0 g1; rw [g0] at g1; cases g1
        · simp [Array.getElem?_eq_none h'] at g1
      have h2 := wpOp_putIf hoj (hfree j oj hoj hji hjun hnot).1 (fun cs b => hsel i oi cs b hi) (fun cs b => hsel j oj cs b hoj) hQ hy h1
      refine wpOp_mono ?_ h2
      rintro a' w' ⟨hy', S', hw, hF, h3⟩
      refine ⟨S', hw, hF, wpS_first hrf ht hFi hi hsel hQ n (listed.setIfInBounds j true) S' a' (fun k ok hk hki hun hno => hfree k ok hk hki ?_ hno) (ready_mono hr (Ne.symm hji)) (YieldsIf.later ht hy' ((hfree j oj hoj hji hjun hnot).2 _ _ hF)) ?_⟩
      · by_cases hjk : j = k
        · subst hjk; exact hjun
        · rw [getD_set_ne true hjk] at hun; exact hun
      · rw [Array.setIfInBounds_comm _ _ hji]; exact h3
end

/-! ### Orders -/
/-- An order of a drawn region's operations: this one may be taken first (q; ob: it may load from an object); this one alone may come up (w); one of two (b). -/
inductive Tr where
  | done
  | q (i : Nat) (ob : Bool) (t : Tr)
  | w (i : Nat) (t : Tr)
  | b (i : Nat) (t : Tr) (j : Nat) (u : Tr)
/-- An order; the stores that go into variables of the frame's own. -/
structure Sch where
  ls : List Nat
  t : Tr
def rootOf (ops : Array Oper) : Nat → Operand → List Nat
  | n + 1, .tmp t => match ops.toList.find? (fun o => o.dst == some t) with
    | some o => match o.op with
      | .fieldAddr _ x _ | .indexAddr _ x _ | .nilCheck x | .move x => rootOf ops n x
      | _ => [t]
    | none => [t]
  | 0, .tmp t => [t]
  | _, _ => []
def xOf (ops : Array Oper) (i : Nat) : List Nat := match ops[i]? with | some o => (match o.op with | .store _ p _ => rootOf ops 9 p | _ => []) | none => []
def ldRoot (ops : Array Oper) (o : Oper) : List Nat := match o.op with | .load _ p => rootOf ops 9 p | _ => []
def stillAt (ops : Array Oper) (i : Nat) : Bool := match ops[i]? with | some o => stillK o | none => false
def afterOf (ops : Array Oper) (j i : Nat) : Bool := match ops[j]? with | some o => o.after.any (fun e => Region.binds .any e && e.on == i) | none => false
def rivals (ops : Array Oper) (listed : Array Bool) (i : Nat) : List Nat := (List.range ops.size).filter fun j => !(j == i || (listed.getD j true || afterOf ops j i))
def ldStat (ops : Array Oper) (ls : List Nat) (listed : Array Bool) (i : Nat) (ob : Bool) : Bool := match ops[i]? with
  | some o => quietK o || (isLoad o && (rivals ops listed i).all fun j => ((xOf ops j).all fun x => !(ldRoot ops o).contains x) && (!ob || (stillAt ops j || ls.contains j)))
  | none => false
def okT (ops : Array Oper) (ls : List Nat) : Nat → Array Bool → Tr → Bool
  | _, listed, .done => (Region.ready .any ops listed).isEmpty
  | n + 1, listed, .q i ob t => ldStat ops ls listed i ob && (Region.ready .any ops listed).contains i && Region.free .any ops listed i && okT ops ls n (listed.setIfInBounds i true) t
  | n + 1, listed, .w i t => Region.ready .any ops listed == [i] && okT ops ls n (listed.setIfInBounds i true) t
  | n + 1, listed, .b i t j u => Region.ready .any ops listed == [i, j] && okT ops ls n (listed.setIfInBounds i true) t && okT ops ls n (listed.setIfInBounds j true) u
  | 0, _, _ => false
def okS (ops : Array Oper) (s : Sch) : Bool := Region.noSelect ops && okT ops s.ls ops.size (Array.replicate ops.size false) s.t

/-- Carried out or not, as the guard says. -/
def guardW (ops : Array Oper) (o : Oper) (fr : Fr) (yes no : Prop) : Prop :=
  match o.guard with
  | none => yes
  | some (j, want) => match guardD ops j with
    | some d => match look fr.tmps d with
      | .v (.val (.bool b)) => (b = want → yes) ∧ (b ≠ want → no)
      | .v (.val (.tuple _)) => no
      | _ => False
    | none => False
def ldOk (ops : Array Oper) (L : List Nat) (ob : Bool) (o : Oper) (fr : Fr) : Bool :=
  quietK o || match o.op with
    | .load _ p => match fr.ev p with | .l x _ => L.contains x && (rootOf ops 9 p).contains x | .v (.rptr _ _) => true | .v (.ptr _ _) => ob | _ => false
    | _ => false
def stOk (ops : Array Oper) (ls L : List Nat) (i : Nat) (o : Oper) (fr : Fr) : Bool :=
  (match o.dst with | some d => !L.contains d | none => true) && ((!ls.contains i || isLS o fr) &&
  match o.op with
  | .store _ p _ => match fr.ev p with | .l x _ => ((xOf ops i).contains x && (lookB fr.boxes x).isSome) && L.all (fun y => (lookB fr.boxes y).isSome) | _ => true
  | _ => true)
def regT (P : Program) (ops : Array Oper) (ls L : List Nat) (K : Fr → St → Prop) (KP : AV → Fr → St → Prop) : Tr → Fr → St → Prop
  | .done, fr, st => K fr st
  | .q i ob t, fr, st => match ops[i]? with
    | some o => dstOk fr o = true ∧ guardW ops o fr (ldOk ops L ob o fr = true ∧ match opF P o fr st with | some (tv, fr', st') => regT P ops ls L K KP t (fr'.put o.dst tv) st' | none => False) (regT P ops ls L K KP t (fr.put o.dst (.v (.val undef))) st)
    | none => False
  | .w i t, fr, st => match ops[i]? with
    | some o => dstOk fr o = true ∧ guardW ops o fr (stOk ops ls L i o fr = true ∧ opW P o fr st (fun tv fr' st' => regT P ops ls L K KP t (fr'.put o.dst tv) st') KP) (regT P ops ls L K KP t (fr.put o.dst (.v (.val undef))) st)
    | none => False
  | .b i t j u, fr, st =>
    (match ops[i]? with
    | some o => dstOk fr o = true ∧ guardW ops o fr (stOk ops ls L i o fr = true ∧ opW P o fr st (fun tv fr' st' => regT P ops ls L K KP t (fr'.put o.dst tv) st') KP) (regT P ops ls L K KP t (fr.put o.dst (.v (.val undef))) st)
    | none => False) ∧
    (match ops[j]? with
    | some o => dstOk fr o = true ∧ guardW ops o fr (stOk ops ls L j o fr = true ∧ opW P o fr st (fun tv fr' st' => regT P ops ls L K KP u (fr'.put o.dst tv) st') KP) (regT P ops ls L K KP u (fr.put o.dst (.v (.val undef))) st)
    | none => False)

theorem guardW_ok {ops : Array Oper} {o : Oper} {fr : Fr} {yes no : Prop} (h : guardW ops o fr yes no) {B : Nat} {S : Sit} {β : Nat → Nat} {a : Act} (hf : FrOk B S β fr a) :
    (Region.wanted o (yielded ops a.tmps) = true ∧ yes) ∨ (Region.wanted o (yielded ops a.tmps) = false ∧ no) := by
  unfold guardW at h
  cases hg : o.guard with
  | none =>
    rw [hg] at h
    exact .inl ⟨by simp [Region.wanted, hg], h⟩
  | some p =>
    obtain ⟨j, want⟩ := p
    rw [hg] at h
    simp only at h
    split at h
    · rename_i d hgd
      split at h
      · rename_i b hb
        have hy := guard_run hf hgd hb
        by_cases hbw : b = want
        · exact .inl ⟨by simp [Region.wanted, hg, hy, hbw], h.1 hbw⟩
        · exact .inr ⟨by simp [Region.wanted, hg, hy, hbw], h.2 hbw⟩
      · rename_i vs hb
        have hy := guard_none hf hgd hb
        exact .inr ⟨by simp [Region.wanted, hg, hy], h⟩
      · exact h.elim
    · exact h.elim

/-- Blocks that are kept; facts that stay. -/
structure Stp (ob : Bool) (Kp : Nat → Prop) (S S' : Sit) : Prop where
  wk : Wk S S'
  size : S.w.heap.size ≤ S'.w.heap.size
  keep : ∀ b, Kp b → S.k b = .priv → b < S.w.heap.size → S'.w.heap[b]? = S.w.heap[b]? ∧ S'.k b = .priv
  objs : ob = true → ∀ b, S.k b = .obj → b < S.w.heap.size → S'.w.heap[b]? = S.w.heap[b]? ∧ S'.k b = .obj
theorem Stp.refl (ob : Bool) (Kp : Nat → Prop) (S : Sit) : Stp ob Kp S S := ⟨.refl S, Nat.le_refl _, fun _ _ h _ => ⟨rfl, h⟩, fun _ _ h _ => ⟨rfl, h⟩⟩
theorem Stp.trans {ob : Bool} {Kp : Nat → Prop} {S S' S'' : Sit} (h : Stp ob Kp S S') (g : Stp ob Kp S' S'') : Stp ob Kp S S'' :=
  ⟨h.wk.trans g.wk, Nat.le_trans h.size g.size, fun b hb hk hs => by
    obtain ⟨h1, h2⟩ := h.keep b hb hk hs
    obtain ⟨g1, g2⟩ := g.keep b hb h2 (Nat.lt_of_lt_of_le hs h.size)
    exact ⟨g1.trans h1, g2⟩, fun ho b hk hs => by
    obtain ⟨h1, h2⟩ := h.objs ho b hk hs
    obtain ⟨g1, g2⟩ := g.objs ho b h2 (Nat.lt_of_lt_of_le hs h.size)
    exact ⟨g1.trans h1, g2⟩⟩
/-- What the step of number j keeps. -/
def FJ (ops : Array Oper) (ls L : List Nat) (β0 : Nat → Nat) (j : Nat) : Sit → Sit → Prop := Stp (stillAt ops j || ls.contains j) fun b => ∃ x, L.contains x = true ∧ (xOf ops j).contains x = false ∧ b = β0 x
theorem stp_step {ops : Array Oper} {ls L : List Nat} {j : Nat} {o : Oper} (hj : ops[j]? = some o) {fr : Fr} {β β0 : Nat → Nat} {S S' : Sit} {B : Nat} {a : Act} (hf : FrOk B S β fr a) (hb : ∀ x, L.contains x = true → β x = β0 x) (hs : stOk ops ls L j o fr = true) (h : StepOk o fr β S S') : FJ ops ls L β0 j S S' := by
  unfold stOk at hs
  rw [Bool.and_eq_true, Bool.and_eq_true] at hs
  rcases h with rfl | ⟨hx, hls, hst⟩ | ⟨t, p, e, x, off, ho, hp, hw, hk, _, hsz, hh⟩
  · exact .refl _ _ _
  · have hob : (stillAt ops j || ls.contains j) = false := by
      have h1 := hs.2.1
      rw [hls] at h1
      have h2 : stillAt ops j = false := by unfold stillAt; rw [hj]; exact hst
      rw [h2]
      simpa using h1
    refine ⟨hx.wk, hx.size, fun b _ hk hb => ?_, fun h => by rw [hob] at h; cases h⟩
    obtain ⟨h1, h2⟩ := hx.keep b hb (still_priv hk)
    exact ⟨h1, h2.trans hk⟩
  · have hs2 := hs.2.2
    rw [ho] at hs2
    simp only [hp, Bool.and_eq_true] at hs2
    obtain ⟨ds, hbx⟩ := Option.isSome_iff_exists.1 hs2.1.2
    refine ⟨hw, hsz, fun b hbk hkb hlt => ⟨hh b fun he => ?_, by rw [hk]; exact hkb⟩, fun _ b hkb hlt => ⟨hh b fun he => ?_, by rw [hk]; exact hkb⟩⟩
    · obtain ⟨y, hy, hyx, rfl⟩ := hbk
      have hys := List.all_eq_true.1 hs2.2 y (by simpa using hy)
      obtain ⟨cs, hcs⟩ := Option.isSome_iff_exists.1 hys
      have := hf.inj y x cs ds hcs hbx ((hb y hy).trans he)
      subst this
      rw [hyx] at hs2
      simp at hs2
    · have := (hf.box x ds hbx).2.1
      rw [← he, hkb] at this
      cases this

/-- An operation that may be taken first. -/
theorem quiet_yields {P : Program} {ops : Array Oper} {L : List Nat} {ob : Bool} {o : Oper} {fr fr' : Fr} {st st' : St} {tv : Tv} (hl : ldOk ops L ob o fr = true) (h : opF P o fr st = some (tv, fr', st')) {S0 S : Sit} {β : Nat → Nat} {a : Act} (hi : Inv S0 S β fr st a)
    {Kp : Nat → Prop} (hK : ∀ x, L.contains x = true → (ldRoot ops o).contains x = true → Kp (β x)) (hw : Region.wanted o (yielded ops a.tmps) = true) :
    fr' = fr ∧ st' = st ∧ ∃ v, TRel β S tv v ∧ YieldsIf P ops (After (Stp (ob && isLoad o) Kp) S) o v a := by
  cases hqk : quietK o with
  | true =>
    obtain ⟨h1, h2, hQ⟩ := opF_quiet hqk h
    obtain ⟨v, hv, hr⟩ := hQ _ S β a hi.fr
    exact ⟨h1, h2, v, hr, .inl ⟨hw, fun w _ => hv w⟩⟩
  | false =>
    unfold ldOk at hl
    rw [hqk] at hl
    simp only [Bool.false_or] at hl
    split at hl
    · rename_i t p ho
      unfold opF at h
      rw [ho] at h
      simp only at h
      have hisl : isLoad o = true := by simp [isLoad, ho]
      have hroot : ldRoot ops o = rootOf ops 9 p := by simp [ldRoot, ho]
      split at h
      · rename_i r hr
        cases h
        obtain ⟨u, hru, hu⟩ := loadF_still hr hi (hi.fr.ev p)
        refine ⟨rfl, rfl, u, hru, .inl ⟨hw, ?_⟩⟩
        rintro w ⟨S', rfl, hs⟩
        have := hu S'.w (fun ad x hst => (hs.wk.cell ad x hst).1) (fun x off hp => by
          rw [hp] at hl
          simp only [Bool.and_eq_true] at hl
          unfold loadF at hr
          rw [hp] at hr
          simp only at hr
          split at hr
          · rename_i cs hb
            exact (hs.keep _ (hK x hl.1 (by rw [hroot]; exact hl.2)) (hi.fr.box x cs hb).2.1 (hi.fr.lt hb)).1
          · cases hr) (fun i off hp hlt => by
          rw [hp] at hl
          have hob : ob = true := hl
          exact (hs.objs (by rw [hob, hisl]; rfl) _ (hi.st.kind hlt) (hi.st.lt hlt)).1)
        simp [execOp, ho, this]
      · exfalso
        split at h
        · rename_i r hr
          unfold globF at hr
          split at hr
          · simp [Fr.ev] at hl
          · cases hr
        · cases h
    · cases hl

theorem FrOk.bare {B : Nat} {S : Sit} {β : Nat → Nat} {fr : Fr} {a : Act} {d : Option Tmp} {v : Value} (h : FrOk B S β fr (a.put d v)) : FrOk B S β { fr with tmps := [] } a :=
  ⟨by have := h.size; rw [← this]; cases d <;> simp [Act.put], fun _ => trivial, h.box, h.inj, by have := h.defers; cases d <;> exact this⟩
theorem Fin.bare {S0 : Sit} {K : AExit → Fr → St → Prop} (hKP : ∀ v fr st, K (.panic v) fr st → K (.panic v) { fr with tmps := [] } st) {d : Option Tmp} {v : Value} : ∀ c (a : Act) (w : World) (_ : Fin S0 K (.panic c) (a.put d v) w), Fin S0 K (.panic c) a w := by
  intro c a w h
  obtain ⟨ae, S, β, fr, st, hw, hae, hi, hk⟩ := h
  cases ae with
  | panic u => exact ⟨.panic u, S, β, { fr with tmps := [] }, st, hw, hae, ⟨hi.ext, hi.st, hi.fr.bare⟩, hKP _ _ _ hk⟩
  | normal => exact hae.elim
  | exit i => exact hae.elim
  | ret => exact hae.elim

theorem opW_wpOp {P : Program} {ops : Array Oper} {S0 : Sit} {K : AExit → Fr → St → Prop} {ls L : List Nat} {β0 : Nat → Nat} {n : Nat} {listed : Array Bool} {i : Nat} {o : Oper} (ho : ops[i]? = some o) {fr : Fr} {st : St} {k : Fr → St → Prop}
    (hdo : dstOk fr o = true) (h : guardW ops o fr (stOk ops ls L i o fr = true ∧ opW P o fr st (fun tv fr' st' => k (fr'.put o.dst tv) st') (fun v => K (.panic v))) (k (fr.put o.dst (.v (.val undef))) st))
    {S : Sit} {β : Nat → Nat} {a : Act} (hi : Inv S0 S β fr st a) (hb : ∀ x, L.contains x = true → β x = β0 x)
    (ih : ∀ fr st S β a, k fr st → Inv S0 S β fr st a → (∀ x, L.contains x = true → β x = β0 x) → wpS P ops (Fin S0 K) (FJ ops ls L β0) n (listed.setIfInBounds i true) S a) :
    wpOp P ops (Fin S0 K) i (fun a' w' => ∃ S', S'.w = w' ∧ FJ ops ls L β0 i S S' ∧ wpS P ops (Fin S0 K) (FJ ops ls L β0) n (listed.setIfInBounds i true) S' a') a S.w := by
  unfold wpOp
  simp only [ho]
  rcases guardW_ok h hi.fr with ⟨hw, hs, hop⟩ | ⟨hw, hno⟩
  · rw [if_pos hw]
    refine .inl (opW_ok hop hi (fun tv fr' st' S' β' v hk hi' hv hstep hbb => ?_) (fun v fr' st' S' β' u hk hi' hu => ?_))
    · have hd' : dstOk fr' o = true := by
        have := hi.N hi'
        unfold dstOk at hdo ⊢
        rw [this]; exact hdo
      refine ⟨S', rfl, stp_step ho hi.fr hb hs hstep, ih _ _ _ β' _ hk (hi'.put hd' hv) (fun x hx => ?_)⟩
      rw [← hb x hx]
      refine hbb x fun he => ?_
      unfold stOk at hs
      rw [Bool.and_eq_true, he] at hs
      have := hs.1
      simp only [hx] at this
      cases this
    · exact ⟨.panic v, S', β', fr', st', rfl, ⟨u, rfl, hu⟩, hi', hk⟩
  · rw [if_neg (by rw [hw]; simp)]
    exact ⟨S, rfl, .refl _ _ S, ih _ _ _ β _ hno (hi.put hdo (.val _)) hb⟩

theorem ldStat_ok {ops : Array Oper} {ls L : List Nat} {β0 : Nat → Nat} {listed : Array Bool} {i : Nat} {ob : Bool} {oi : Oper} (hi : ops[i]? = some oi) (h : ldStat ops ls listed i ob = true) (j : Nat) (oj : Oper) (hj : ops[j]? = some oj) (hne : j ≠ i) (hun : listed.getD j true = false)
    (hno : ∀ e ∈ oj.after, Region.binds .any e = true → e.on ≠ i) (S S' : Sit) (hF : FJ ops ls L β0 j S S') : Stp (ob && isLoad oi) (fun b => ∃ x, L.contains x = true ∧ (ldRoot ops oi).contains x = true ∧ b = β0 x) S S' := by
  unfold ldStat at h
  rw [hi] at h
  simp only [Bool.or_eq_true, Bool.and_eq_true] at h
  rcases h with h | ⟨hl, h⟩
  · have hnl : isLoad oi = false := by
      unfold quietK at h
      unfold isLoad
      split at h <;> simp_all
    have hr : ldRoot ops oi = [] := by
      unfold isLoad at hnl
      unfold ldRoot
      split <;> simp_all
    exact ⟨hF.wk, hF.size, fun b ⟨x, _, hx, _⟩ => (by rw [hr] at hx; simp at hx), fun ho => (by rw [hnl] at ho; simp at ho)⟩
  · have hjr : j ∈ rivals ops listed i := by
      unfold rivals
      rw [List.mem_filter, List.mem_range]
      refine ⟨(Array.getElem?_eq_some_iff.1 hj).1, ?_⟩
      have ha : afterOf ops j i = false := by
        unfold afterOf
        rw [hj]
        simp only
        cases hc : oj.after.any fun e => Region.binds .any e && e.on == i with
        | false => rfl
        | true =>
          obtain ⟨e, he, hb⟩ := Array.any_eq_true'.1 hc
          simp only [Bool.and_eq_true, beq_iff_eq] at hb
          exact absurd hb.2 (hno e he hb.1)
      simp [hne, hun, ha]
    have hja := List.all_eq_true.1 h j hjr
    rw [Bool.and_eq_true] at hja
    refine ⟨hF.wk, hF.size, fun b ⟨x, h1, h2, h3⟩ hk hlt => hF.keep b ⟨x, h1, ?_, h3⟩ hk hlt, fun ho b hk hlt => hF.objs ?_ b hk hlt⟩
    · cases hc : (xOf ops j).contains x with
      | false => rfl
      | true =>
        have := List.all_eq_true.1 hja.1 x (by simpa using hc)
        rw [h2] at this
        cases this
    · rw [Bool.and_eq_true] at ho
      have := hja.2
      rw [ho.1] at this
      simpa using this

theorem regT_ok {P : Program} {ops : Array Oper} {S0 : Sit} {K : AExit → Fr → St → Prop} {ls L : List Nat} {β0 : Nat → Nat} (hs : Region.noSelect ops = true) (hKP : ∀ v fr st, K (.panic v) fr st → K (.panic v) { fr with tmps := [] } st) :
    ∀ (t : Tr) (n : Nat) (listed : Array Bool) (fr : Fr) (st : St) (S : Sit) (β : Nat → Nat) (a : Act), okT ops ls n listed t = true → regT P ops ls L (K .normal) (fun v => K (.panic v)) t fr st → Inv S0 S β fr st a → (∀ x, L.contains x = true → β x = β0 x) →
      wpS P ops (Fin S0 K) (FJ ops ls L β0) n listed S a
  | .done, n, listed, fr, st, S, β, a, hok, h, hi, hb => by
    have hr : Region.ready .any ops listed = [] := by
      have : (Region.ready .any ops listed).isEmpty = true := by cases n <;> exact hok
      simpa using this
    have hq : Fin S0 K .normal a S.w := ⟨.normal, S, β, fr, st, rfl, trivial, hi, h⟩
    cases n with
    | zero => exact ⟨hr, hq⟩
    | succ n => exact ⟨fun _ => hq, by rw [hr]; simp⟩
  | .q i ob t, 0, listed, fr, st, S, β, a, hok, h, hi, hb => by cases hok
  | .w i t, 0, listed, fr, st, S, β, a, hok, h, hi, hb => by cases hok
  | .b i t j u, 0, listed, fr, st, S, β, a, hok, h, hi, hb => by cases hok
  | .q i ob t, n + 1, listed, fr, st, S, β, a, hok, h, hi, hb => by
    simp only [okT, Bool.and_eq_true] at hok
    obtain ⟨⟨⟨hq, hrd⟩, hfree⟩, hok⟩ := hok
    have hrd' : i ∈ Region.ready .any ops listed := by simpa using hrd
    unfold regT at h
    split at h
    · rename_i o ho
      obtain ⟨hdo, h⟩ := h
      have step : ∀ {fr' : Fr} {st' : St} {tv : Tv} {v : Value}, TRel β S tv v → YieldsIf P ops (After (Stp (ob && isLoad o) fun b => ∃ x, L.contains x = true ∧ (ldRoot ops o).contains x = true ∧ b = β0 x) S) o v a → fr' = fr → st' = st → regT P ops ls L (K .normal) (fun v => K (.panic v)) t (fr'.put o.dst tv) st' →
          wpS P ops (Fin S0 K) (FJ ops ls L β0) (n + 1) listed S a := by
        intro fr' st' tv v hv hy e1 e2 hk
        subst e1; subst e2
        exact wpS_first (Stp.refl _ _) (fun _ _ _ => Stp.trans) (fun S => Stp.refl _ _ S) ho (Region.noSelect_spec hs) (Fin.bare hKP) n listed S a
          (fun j oj hj hne hun hno => ⟨Region.free_spec ho hfree j oj hj hne hun hno, ldStat_ok ho hq j oj hj hne hun hno⟩) hrd' hy
          (regT_ok hs hKP t n _ _ _ S β _ hok hk (hi.put hdo hv) hb)
      rcases guardW_ok h hi.fr with ⟨hw, hl, hop⟩ | ⟨hw, hno⟩
      · split at hop
        · rename_i tv fr' st' hopF
          obtain ⟨e1, e2, v, hv, hy⟩ := quiet_yields (Kp := fun b => ∃ x, L.contains x = true ∧ (ldRoot ops o).contains x = true ∧ b = β0 x) hl hopF hi (fun x hx hx2 => ⟨x, hx, hx2, hb x hx⟩) hw
          exact step hv hy e1 e2 hop
        · exact hop.elim
      · exact step (fr' := fr) (st' := st) (tv := .v (.val undef)) (v := undef) (.val _) (.inr ⟨hw, rfl⟩) rfl rfl hno
    · exact h.elim
  | .w i t, n + 1, listed, fr, st, S, β, a, hok, h, hi, hb => by
    simp only [okT, Bool.and_eq_true, beq_iff_eq] at hok
    obtain ⟨hrd, hok⟩ := hok
    unfold regT at h
    split at h
    · rename_i o ho
      refine ⟨fun h0 => (by rw [hrd] at h0; cases h0), fun j hj => ?_⟩
      rw [hrd, List.mem_singleton] at hj
      subst hj
      exact opW_wpOp ho h.1 h.2 hi hb (fun fr st S β a hk hi hb => regT_ok hs hKP t n _ fr st S β a hok hk hi hb)
    · exact h.elim
  | .b i t j u, n + 1, listed, fr, st, S, β, a, hok, h, hi, hb => by
    simp only [okT, Bool.and_eq_true, beq_iff_eq] at hok
    obtain ⟨⟨hrd, hok1⟩, hok2⟩ := hok
    unfold regT at h
    obtain ⟨h1, h2⟩ := h
    refine ⟨fun h0 => (by rw [hrd] at h0; cases h0), fun k hk => ?_⟩
    rw [hrd, List.mem_cons, List.mem_singleton] at hk
    rcases hk with rfl | rfl
    · split at h1
      · rename_i o ho
        exact opW_wpOp ho h1.1 h1.2 hi hb (fun fr st S β a hk hi hb => regT_ok hs hKP t n _ fr st S β a hok1 hk hi hb)
      · exact h1.elim
    · split at h2
      · rename_i o ho
        exact opW_wpOp ho h2.1 h2.2 hi hb (fun fr st S β a hk hi hb => regT_ok hs hKP u n _ fr st S β a hok2 hk hi hb)
      · exact h2.elim

/-! ### Less is known of a frame -/
theorem FrLe.refl (fr : Fr) : FrLe fr fr := fun _ _ _ _ h => h
/-- K of a frame of which less is known. -/
def Wide (K : AExit → Fr → St → Prop) : AExit → Fr → St → Prop
  | .normal, fr, st => ∃ fr', FrLe fr fr' ∧ K .normal fr' st
  | e, fr, st => K e fr st
theorem WpA.wide {P : Program} {c : Code} {K : AExit → Fr → St → Prop} {fr : Fr} {st : St} (h : WpA P c (Wide K) fr st) : WpA P c K fr st :=
  fun S0 S β a hi => Go.Code.wp_mono (fun e a w ⟨ae, S', β', fr', st', h1, h2, h3, h4⟩ => by
    cases ae with
    | normal =>
      obtain ⟨fr2, h5, h6⟩ := h4
      exact ⟨.normal, S', β', fr2, st', h1, h2, ⟨h3.ext, h3.st, h5 _ _ _ _ h3.fr⟩, h6⟩
    | _ => exact ⟨_, S', β', fr', st', h1, h2, h3, h4⟩) (h S0 S β a hi)
theorem frLe_look {fr fr' : Fr} (hb : fr'.boxes = fr.boxes) (hN : fr'.N = fr.N) (ht : ∀ t, look fr'.tmps t = look fr.tmps t ∨ look fr'.tmps t = .u) : FrLe fr fr' := fun B S β a h =>
  ⟨h.size.trans hN.symm, fun t => by
    rcases ht t with h1 | h1
    · rw [h1]; exact h.tmp t
    · rw [h1]; trivial, fun x cs hx => h.box x cs (hb ▸ hx), fun x y cs ds hx hy he => h.inj x y cs ds (hb ▸ hx) (hb ▸ hy) he, h.defers⟩

/-- A region whose order is drawn. -/
theorem wpA_drawn {P : Program} {id : Nat} {ops : Array Oper} {K : AExit → Fr → St → Prop} {fr : Fr} {st : St} (hm : P.follows .mixedOrders = true) (s : Sch) (L : List Nat) (hok : okS ops s = true)
    (hKP : ∀ v fr st, K (.panic v) fr st → K (.panic v) { fr with tmps := [] } st)
    (h : regT P ops s.ls L (Wide K .normal) (fun v => K (.panic v)) s.t fr st) : WpA P (.region id ops true) K fr st := by
  refine WpA.wide ?_
  have hKP : ∀ v fr st, Wide K (.panic v) fr st → Wide K (.panic v) { fr with tmps := [] } st := hKP
  intro S0 S β a hi
  unfold okS at hok
  rw [Bool.and_eq_true] at hok
  have hx := ext_onW S (w := { S.w with drawn := S.w.drawn + 1 }) rfl rfl rfl rfl
  have hi' : Inv S0 (S.onW { S.w with drawn := S.w.drawn + 1 }) β fr st a := ⟨hi.ext.trans hx, hi.st.onW rfl rfl rfl rfl, hi.fr.ext hx⟩
  exact wp_region_any hm (wpAny_of_wpS _ _ _ _ (regT_ok (K := Wide K) (β0 := β) hok.1 hKP s.t _ _ fr st _ β a hok.2 h hi' (fun _ _ => rfl)))
end Go.Proofs.YtknocbhocdenoaaGreatDoor
