/- Code of the abstract machine: the judgement, its rules; a whole function; what may be forgotten at a function's end. -/
import Derived.Test.YtknocbhocdenoaaGreatDoorAwL
import Derived.Scope
namespace Go.Proofs.YtknocbhocdenoaaGreatDoor
open Go Go.RowKit

inductive AExit where
  | normal
  | exit (id : Nat)
  | ret
  | panic (v : AV)
def AEx (S : Sit) : AExit → Exit → Prop
  | .normal, .normal => True
  | .exit i, .exit j => i = j
  | .ret, .ret => True
  | .panic v, .panic chain => ∃ u, chain = [{ v := u, recovered := false }] ∧ VRel S v u
  | _, _ => False
def Fin (S0 : Sit) (K : AExit → Fr → St → Prop) (e : Exit) (a : Act) (w : World) : Prop :=
  ∃ ae S β fr st, S.w = w ∧ AEx S ae e ∧ Inv S0 S β fr st a ∧ K ae fr st
/-- From this frame and state the code comes to an end of which K holds. -/
def WpA (P : Program) (c : Code) (K : AExit → Fr → St → Prop) (fr : Fr) (st : St) : Prop :=
  ∀ S0 S β a, Inv S0 S β fr st a → c.wp P (Fin S0 K) a S.w

theorem WpA.mono {P : Program} {c : Code} {K K' : AExit → Fr → St → Prop} {fr : Fr} {st : St} (h : WpA P c K fr st) (hk : ∀ e fr st, K e fr st → K' e fr st) : WpA P c K' fr st :=
  fun S0 S β a hi => Go.Code.wp_mono (fun e a w ⟨ae, S', β', fr', st', h1, h2, h3, h4⟩ => ⟨ae, S', β', fr', st', h1, h2, h3, hk _ _ _ h4⟩) (h S0 S β a hi)
/-- Less is known of a frame. -/
def FrLe (fr fr' : Fr) : Prop := ∀ B S β a, FrOk B S β fr a → FrOk B S β fr' a
theorem WpA.less {P : Program} {c : Code} {K : AExit → Fr → St → Prop} {fr fr' : Fr} {st : St} (hl : FrLe fr fr') (h : WpA P c K fr' st) : WpA P c K fr st :=
  fun S0 S β a hi => h S0 S β a ⟨hi.ext, hi.st, hl _ _ _ _ hi.fr⟩
theorem wpA_skip {P : Program} {K : AExit → Fr → St → Prop} {fr : Fr} {st : St} (h : K .normal fr st) : WpA P .skip K fr st :=
  fun S0 S β a hi => wp_skip ⟨.normal, S, β, fr, st, rfl, trivial, hi, h⟩
theorem wpA_label {P : Program} {K : AExit → Fr → St → Prop} {fr : Fr} {st : St} {l : Nat} (h : K .normal fr st) : WpA P (.label l) K fr st :=
  fun S0 S β a hi => wp_label ⟨.normal, S, β, fr, st, rfl, trivial, hi, h⟩
theorem wpA_scope {P : Program} {c : Code} {K : AExit → Fr → St → Prop} {fr : Fr} {st : St} (h : WpA P c K fr st) : WpA P (.scope c) K fr st :=
  fun S0 S β a hi => wp_scope_straight (Go.Code.wp_mono (fun e a w hf => by
    cases e with
    | goto l =>
      obtain ⟨ae, S', β', fr', st', _, hae, _⟩ := hf
      cases ae <;> exact hae.elim
    | _ => exact hf) (h S0 S β a hi))
theorem wpA_ret {P : Program} {K : AExit → Fr → St → Prop} {fr : Fr} {st : St} (h : K .ret fr st) : WpA P .ret K fr st :=
  fun S0 S β a hi => wp_ret ⟨.ret, S, β, fr, st, rfl, trivial, hi, h⟩
theorem wpA_exit {P : Program} {K : AExit → Fr → St → Prop} {fr : Fr} {st : St} {id : Nat} (h : K (.exit id) fr st) : WpA P (.exit id) K fr st :=
  fun S0 S β a hi => wp_exit ⟨.exit id, S, β, fr, st, rfl, rfl, hi, h⟩
def seqK (P : Program) (y : Code) (K : AExit → Fr → St → Prop) : AExit → Fr → St → Prop
  | .normal => WpA P y K
  | e => K e
theorem wpA_seq {P : Program} {x y : Code} {K : AExit → Fr → St → Prop} {fr : Fr} {st : St} (h : WpA P x (seqK P y K) fr st) : WpA P (.seq x y) K fr st :=
  fun S0 S β a hi => by
    refine wp_seq (Go.Code.wp_mono ?_ (h S0 S β a hi))
    rintro e a' w' ⟨ae, S', β', fr', st', rfl, hae, hi', hk⟩
    cases ae with
    | normal =>
      cases e <;> first | exact hk S0 S' β' a' hi' | exact hae.elim
    | exit i => cases e <;> first | exact ⟨.exit i, S', β', fr', st', rfl, hae, hi', hk⟩ | exact hae.elim
    | ret => cases e <;> first | exact ⟨.ret, S', β', fr', st', rfl, hae, hi', hk⟩ | exact hae.elim
    | panic v => cases e <;> first | exact ⟨.panic v, S', β', fr', st', rfl, hae, hi', hk⟩ | exact hae.elim
theorem wpA_cond {P : Program} {c : Operand} {x y : Code} {K : AExit → Fr → St → Prop} {fr : Fr} {st : St} {b : Bool} (hc : fr.ev c = .v (.val (.bool b))) (h1 : b = true → WpA P x K fr st) (h2 : b = false → WpA P y K fr st) : WpA P (.cond c x y) K fr st :=
  fun S0 S β a hi => wp_cond_split (val_inv (vrel_ev hi.fr hc)) (fun h => h1 h S0 S β a hi) (fun h => h2 h S0 S β a hi)
def blockK (id : Nat) (K : AExit → Fr → St → Prop) : AExit → Fr → St → Prop
  | .exit i => if i = id then K .normal else K (.exit i)
  | e => K e
theorem wpA_block {P : Program} {id : Nat} {c : Code} {K : AExit → Fr → St → Prop} {fr : Fr} {st : St} (h : WpA P c (blockK id K) fr st) : WpA P (.block id c) K fr st :=
  fun S0 S β a hi => by
    refine wp_block (Go.Code.wp_mono ?_ (h S0 S β a hi))
    rintro e a' w' ⟨ae, S', β', fr', st', rfl, hae, hi', hk⟩
    cases ae with
    | normal => cases e <;> first | exact ⟨.normal, S', β', fr', st', rfl, hae, hi', hk⟩ | exact hae.elim
    | exit i =>
      cases e with
      | exit j =>
        have hij : i = j := hae
        subst hij
        simp only [blockK] at hk
        simp only [Exit.inBlock]
        split at hk
        · rename_i he; rw [if_pos he]; exact ⟨.normal, S', β', fr', st', rfl, trivial, hi', hk⟩
        · rename_i he; rw [if_neg he]; exact ⟨.exit i, S', β', fr', st', rfl, rfl, hi', hk⟩
      | _ => exact hae.elim
    | ret => cases e <;> first | exact ⟨.ret, S', β', fr', st', rfl, hae, hi', hk⟩ | exact hae.elim
    | panic v => cases e <;> first | exact ⟨.panic v, S', β', fr', st', rfl, hae, hi', hk⟩ | exact hae.elim
/-- So many rounds of a loop. -/
def LoopA (P : Program) (c : Code) (K : AExit → Fr → St → Prop) : Nat → Fr → St → Prop
  | 0, _, _ => False
  | n + 1, fr, st => WpA P c (fun | .normal => LoopA P c K n | e => K e) fr st
theorem loopA_rounds {P : Program} {c : Code} {K : AExit → Fr → St → Prop} {S0 : Sit} : ∀ (n : Nat) (fr : Fr) (st : St) (S : Sit) (β : Nat → Nat) (a : Act), LoopA P c K n fr st → Inv S0 S β fr st a → Code.rounds P c (Fin S0 K) n a S.w
  | 0, _, _, _, _, _, h, _ => h.elim
  | n + 1, fr, st, S, β, a, h, hi => by
    rw [rounds_succ]
    refine Go.Code.wp_mono ?_ (h S0 S β a hi)
    rintro e a' w' ⟨ae, S', β', fr', st', rfl, hae, hi', hk⟩
    cases ae with
    | normal => cases e <;> first | exact loopA_rounds n fr' st' S' β' a' hk hi' | exact hae.elim
    | exit i => cases e <;> first | exact ⟨.exit i, S', β', fr', st', rfl, hae, hi', hk⟩ | exact hae.elim
    | ret => cases e <;> first | exact ⟨.ret, S', β', fr', st', rfl, hae, hi', hk⟩ | exact hae.elim
    | panic v => cases e <;> first | exact ⟨.panic v, S', β', fr', st', rfl, hae, hi', hk⟩ | exact hae.elim
theorem wpA_loop {P : Program} {c : Code} {K : AExit → Fr → St → Prop} {fr : Fr} {st : St} (n : Nat) (h : LoopA P c K n fr st) : WpA P (.loop c) K fr st :=
  fun S0 S β a hi => wp_loop_rounds n (loopA_rounds n fr st S β a h hi)
theorem wpA_region {P : Program} {id : Nat} {ops : Array Oper} {K : AExit → Fr → St → Prop} {fr : Fr} {st : St} (h : regW P ops (K .normal) (fun v => K (.panic v)) ops.toList fr st) : WpA P (.region id ops false) K fr st :=
  fun S0 S β a hi => wp_region_list (regW_ok (Q := Fin S0 K)
    (fun fr' st' S' β' a' hk hi' => ⟨.normal, S', β', fr', st', rfl, trivial, hi', hk⟩)
    (fun v fr' st' S' β' a' u hk hi' hu => ⟨.panic v, S', β', fr', st', rfl, ⟨u, rfl, hu⟩, hi', hk⟩) ops.toList fr st S β a h hi)

/-! ### A function's results -/
def resOne (P : Program) (fr : Fr) (st : St) : ResultVar → Option AV
  | .tmp t => match look fr.tmps t with | .v a => some a | _ => none
  | .cell t ty => loadF P ty (look fr.tmps t) fr st
def resL : List AV → AV
  | [a] => a
  | l => .tuple l
def resList (P : Program) (fr : Fr) (st : St) : List ResultVar → Option (List AV)
  | [] => some []
  | r :: rs => match resOne P fr st r, resList P fr st rs with | some a, some l => some (a :: l) | _, _ => none
def resF (P : Program) (fn : Func) (fr : Fr) (st : St) : Option AV := (resList P fr st fn.results.toList).map resL
def resSem (tmps : Array Value) : ResultVar → Sem Value
  | .tmp t => pure (tmps.getD t undef)
  | .cell a t => do loadVar t (← asAddr (tmps.getD a undef))
theorem results_eq (fn : Func) (tmps : Array Value) : results fn tmps = (do let vs ← fn.results.mapM (resSem tmps); pure (if h : vs.size = 1 then vs[0] else .tuple vs)) := by
  unfold results
  have : (fun r => match r with | ResultVar.tmp t => (pure (tmps.getD t undef) : Sem Value) | ResultVar.cell a t => do loadVar t (← asAddr (tmps.getD a undef))) = resSem tmps := by
    funext r
    cases r <;> rfl
  exact congrArg (fun f => (do let vs ← fn.results.mapM f; pure (if h : vs.size = 1 then vs[0] else .tuple vs))) this
theorem resOne_ok {P : Program} {fr : Fr} {st : St} {S0 S : Sit} {β : Nat → Nat} {a : Act} (hi : Inv S0 S β fr st a) {r : ResultVar} {x : AV} (h : resOne P fr st r = some x) :
    ∃ v, (resSem a.tmps r).run P S.w = .ok v S.w ∧ VRel S x v := by
  cases r with
  | tmp t =>
    simp only [resOne] at h
    split at h
    · rename_i b hb
      cases h
      have := hi.fr.tmp t
      rw [hb] at this
      exact ⟨_, rfl, this⟩
    · cases h
  | cell t ty =>
    obtain ⟨u, hu, hr⟩ := loadF_ok h hi (hi.fr.tmp t)
    refine ⟨u, ?_, hr⟩
    simp only [resSem, Instr.loadAt, Sem.run_bind] at hu ⊢
    have hl := hi.fr.tmp t
    have : ∃ ad, a.tmps.getD t undef = .pointer (some ad) := by
      simp only [resOne] at h
      unfold loadF at h
      split at h
      · rename_i x off hx; rw [hx] at hl; exact ⟨_, hl⟩
      · rename_i i off hx; rw [hx] at hl; generalize a.tmps.getD t undef = q at hl; cases hl; exact ⟨_, rfl⟩
      · rename_i cs off hx; rw [hx] at hl; generalize a.tmps.getD t undef = q at hl; cases hl; exact ⟨_, rfl⟩
      · cases h
    obtain ⟨ad, had⟩ := this
    rw [had] at hu ⊢
    simpa [Instr.sureAddr, asAddr] using hu
theorem resList_ok {P : Program} {fr : Fr} {st : St} {S0 S : Sit} {β : Nat → Nat} {a : Act} (hi : Inv S0 S β fr st a) : ∀ {rs : List ResultVar} {xs : List AV}, resList P fr st rs = some xs →
    ∃ vs, (rs.mapM (resSem a.tmps)).run P S.w = .ok vs S.w ∧ Rels S xs vs
  | [], xs, h => by cases h; exact ⟨[], rfl, Rels.nil S⟩
  | r :: rs, xs, h => by
    unfold resList at h
    split at h
    · rename_i x xs' hx hxs
      cases h
      obtain ⟨v, hv, hr⟩ := resOne_ok hi hx
      obtain ⟨vs, hvs, hrs⟩ := resList_ok hi hxs
      refine ⟨v :: vs, ?_, Rels.cons hr hrs⟩
      rw [List.mapM_cons]
      simp only [Sem.run_bind, Sem.run_pure, hv, hvs, Result.andThen_ok]
    · cases h
theorem resF_ok {P : Program} {fn : Func} {fr : Fr} {st : St} {S0 S : Sit} {β : Nat → Nat} {a : Act} (hi : Inv S0 S β fr st a) {x : AV} (h : resF P fn fr st = some x) :
    ∃ v, (results fn a.tmps).run P S.w = .ok v S.w ∧ VRel S x v := by
  unfold resF at h
  rw [Option.map_eq_some_iff] at h
  obtain ⟨xs, hxs, rfl⟩ := h
  obtain ⟨vs, hvs, hr⟩ := resList_ok hi hxs
  rw [results_eq, Array.mapM_eq_mapM_toList]
  simp only [Sem.run_bind, Sem.run_pure, map_eq_pure_bind, hvs, Result.andThen_ok]
  refine ⟨_, rfl, ?_⟩
  match xs, hr with
  | [x], hr =>
    obtain ⟨u, us, rfl, h1, h2⟩ := hr.inv
    rw [h2.inv_nil]
    simpa [resL] using h1
  | [], hr =>
    rw [hr.inv_nil]
    exact .tuple _ _ rfl (fun j a u ha => by simp at ha)
  | x :: y :: l, hr =>
    have hl : vs.length ≠ 1 := by have := hr.1; simp at this; omega
    have hl' : vs.toArray.size ≠ 1 := by simpa using hl
    rw [dif_neg hl']
    exact .tuple _ _ (by simpa using hr.1) (fun j a u ha hu => hr.2 j a u ha (by simpa using hu))
end Go.Proofs.YtknocbhocdenoaaGreatDoor
