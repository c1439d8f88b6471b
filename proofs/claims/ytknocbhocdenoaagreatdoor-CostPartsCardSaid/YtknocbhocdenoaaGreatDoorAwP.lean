/- Deferred closures that recover first: what they do, by the abstract machine. tree.caught: it runs a look; what ended it. -/
import Derived.Test.YtknocbhocdenoaaGreatDoorAwT
import Derived.Defers
import Derived.Recover
namespace Go.Proofs.YtknocbhocdenoaaGreatDoor
open Go Go.RowKit

theorem upon_mono2 {P : Program} {o : Oper} {a : Act} {K K' : Act → World → Prop} {Q Q' : Exit → Act → World → Prop} (hno : ¬ LetsOut Q) (hK : ∀ a w, K a w → K' a w) (hQ : ∀ e a w, Q e a w → Q' e a w) {r : Result Next} (h : o.upon P a K Q r) : o.upon P a K' Q' r := by
  cases r with
  | ok n w =>
    cases n with
    | value v => exact hK _ _ h
    | skip => exact hK _ _ h
    | defer d => exact hK _ _ h
    | enter f args => exact Calls.mono h (fun e w'' he => by cases e <;> first | exact hK _ _ he | exact hQ _ _ _ he | exact absurd he hno)
    | row r args => exact Rows.mono h (fun _ _ he => hK _ _ he)
    | _ => exact h
  | halt x w => cases x <;> first | exact hQ _ _ _ h | exact h
theorem wpOpsS_of {P : Program} {ops : Array Oper} {Q : Exit → Act → World → Prop} {Q2 : Exit → Act → List Frame → World → Prop} {cs : List Frame} (hno : ¬ LetsOut Q) (hQ : ∀ e a w, Q e a w → Q2 e a cs w) :
    ∀ (l : List Nat) (a : Act) (w : World), wpOps P ops Q l a w → wpOpsS P ops Q2 l a cs w
  | [], a, w, h => hQ _ _ _ h
  | i :: rest, a, w, h => by
    unfold wpOps at h
    unfold wpOpsS
    cases ho : ops[i]? with
    | none =>
      rw [ho] at h
      exact wpOpsS_of hno hQ rest a w h
    | some o =>
      rw [ho] at h
      simp only at h ⊢
      by_cases hw : Region.wanted o (yielded ops a.tmps) = true
      · rw [if_pos hw] at h ⊢
        rcases h with h | ⟨_, h⟩
        · unfold Oper.wp at h
          generalize (execOp a.eval o).run P w = r at h
          have h2 : o.upon P a (fun a' w' => wpOpsS P ops Q2 rest a' cs w') (fun e a' w' => Q2 e a' cs w') r := upon_mono2 hno (fun a w h => wpOpsS_of hno hQ rest a w h) hQ h
          split
          · exact h.elim
          · exact h2
        · exact absurd h hno
      · rw [if_neg hw] at h ⊢
        exact wpOpsS_of hno hQ rest _ w h
theorem fin_noOut {S0 : Sit} {K : AExit → Fr → St → Prop} : ¬ LetsOut (Fin S0 K) := by
  rintro ⟨a, w, ae, S, β, fr, st, _, hae, _⟩
  cases ae <;> exact hae

/-- A deferred closure that recovers first. -/
theorem callsD_closure {P : Program} {f : FuncId} {fn : Func} {id : Nat} {ops : Array Oper} {rest : Code} {o0 : Oper} {tail : List Oper} {d0 : Nat} (hf : P.funcs[f]? = some fn) (hb : fn.body = some (.seq (.region id ops false) rest))
    (ht : ops.toList = o0 :: tail) (h0 : o0.op = .call { callee := .builtin .recover, args := #[], argTypes := #[] }) (hg0 : o0.guard = none) (hd0 : o0.dst = some d0)
    {u u' : FrameMode} {v : Value} (hu : ∀ (c₀ : Frame) cs, c₀.mode = u → recoverD (c₀ :: cs) = some (v, { c₀ with mode := u' } :: cs) ∨ (recoverD (c₀ :: cs) = none ∧ v = .nilIface ∧ u' = u))
    {S : Sit} {st : St} {args : List AV} {vs : Array Value} {r : AV} (hst : StOk S st) (hr : Rels S args vs.toList) (hv : VRel S r v) (objs froz : List Nat) (hlt : d0 < max fn.ntmps args.length) {Q : AEnd → St → Prop}
    (h : regW P ops (fun fr st => WpA P rest (FnK P fn Q) fr st) (fun v _ st => Q (.panic v) st) tail ((fr0 fn args objs froz).put (some d0) (.v r)) st) :
    CallsD P f vs u S.w fun e u1 w' => u1 = u' ∧ ∃ S' ea st1, S'.w = w' ∧ Ext S S' ∧ StOk S' st1 ∧ EndRel S' ea e ∧ Q ea st1 := by
  refine callsD_of_wpS hf hb fun c₀ cs hc => ?_
  have fin : ∀ (e : Exit) (a : Act) (w : World), Fin S (FnK P fn Q) e a w → bodyPostS P fn c₀ cs (fun e u1 w' => u1 = u' ∧ ∃ S' ea st1, S'.w = w' ∧ Ext S S' ∧ StOk S' st1 ∧ EndRel S' ea e ∧ Q ea st1) e a ({ c₀ with mode := u' } :: cs) w := by
    rintro e a w ⟨ae, S1, β, fr, st1, rfl, hae, hi1, hk⟩
    have done : ∀ x, resF P fn fr st1 = some x → Q (.ret x) st1 → a.defers = [] ∧ ∃ u2, ({ c₀ with mode := u' } :: cs : List Frame) = { c₀ with mode := u2 } :: cs ∧ ∃ y, (results fn a.tmps).run P S1.w = .ok y S1.w ∧ (u2 = u' ∧ ∃ S' ea st2, S'.w = S1.w ∧ Ext S S' ∧ StOk S' st2 ∧ EndRel S' ea (.returned y) ∧ Q ea st2) := by
      intro x hx hq
      obtain ⟨y, hy, hry⟩ := resF_ok hi1 hx
      exact ⟨hi1.fr.defers, u', rfl, y, hy, rfl, S1, .ret x, st1, rfl, hi1.ext, hi1.st, hry, hq⟩
    cases ae with
    | normal =>
      cases e <;> first | exact hae.elim | skip
      obtain ⟨x, hx, hq⟩ := hk
      exact done x hx hq
    | ret =>
      cases e <;> first | exact hae.elim | skip
      obtain ⟨x, hx, hq⟩ := hk
      exact done x hx hq
    | exit i => exact hk.elim
    | panic x =>
      cases e <;> first | exact hae.elim | skip
      obtain ⟨y, rfl, hy⟩ := hae
      exact ⟨hi1.fr.defers, u', rfl, rfl, S1, .panic x, st1, rfl, hi1.ext, hi1.st, ⟨y, rfl, hy⟩, hk⟩
  apply wpS_seq
  apply wpS_region
  have hsz : List.range ops.size = 0 :: List.range' 1 tail.length := by
    rw [← Array.length_toList, ht, List.length_cons, List.range_eq_range', List.range'_succ]
  have ho0 : ops[0]? = some o0 := by rw [← Array.getElem?_toList, ht]; rfl
  rw [hsz]
  have hex : ∀ (a : Act) (w : World), (execOp a.eval o0).run P w = .ok .recover w := fun a w => by simp [execOp, h0, resolve, invoke, builtin]
  have hi0 : Inv S S (fun _ => 0) (fr0 fn args objs froz) st { tmps := vs ++ Array.replicate (fn.ntmps - vs.size) undef, defers := [] } := ⟨.refl S, hst, frOk_entry hr objs froz _ _⟩
  have hi1 : Inv S S (fun _ => 0) ((fr0 fn args objs froz).put (some d0) (.v r)) st (({ tmps := vs ++ Array.replicate (fn.ntmps - vs.size) undef, defers := [] } : Act).put (some d0) v) :=
    ⟨.refl S, hst, hi0.fr.put (fun x hx => by cases hx; exact hlt) hv⟩
  have hlist := regW_ok (S0 := S) (Q := Fin S (seqK P rest (FnK P fn Q)))
    (fun fr st S β a hk hi => ⟨.normal, S, β, fr, st, rfl, trivial, hi, hk⟩)
    (fun v fr st S β a u hk hi hu => ⟨.panic v, S, β, fr, st, rfl, ⟨u, rfl, hu⟩, hi, hk⟩) tail _ _ _ _ _ h hi1
  have hops : wpOps P ops (Fin S (seqK P rest (FnK P fn Q))) (List.range' 1 tail.length) (({ tmps := vs ++ Array.replicate (fn.ntmps - vs.size) undef, defers := [] } : Act).put (some d0) v) S.w := by
    rw [wpOps_eq_wpList tail 1 (fun j => by rw [← Array.getElem?_toList, ht, Nat.add_comm, List.getElem?_cons_succ])]
    exact hlist
  have hS := wpOpsS_of (cs := { c₀ with mode := u' } :: cs) (Q2 := Exit.thenS (rest.wpS P (bodyPostS P fn c₀ cs fun e u1 w' => u1 = u' ∧ ∃ S' ea st1, S'.w = w' ∧ Ext S S' ∧ StOk S' st1 ∧ EndRel S' ea e ∧ Q ea st1)) (bodyPostS P fn c₀ cs fun e u1 w' => u1 = u' ∧ ∃ S' ea st1, S'.w = w' ∧ Ext S S' ∧ StOk S' st1 ∧ EndRel S' ea e ∧ Q ea st1)) fin_noOut (by
      rintro e a w ⟨ae, S1, β, fr, st1, rfl, hae, hi1, hk⟩
      cases ae with
      | normal =>
        cases e <;> first | exact hae.elim | skip
        exact wpS_of_wp (Go.Code.wp_mono (fun e a w hf => fin e a w hf) (hk S S1 β a hi1))
      | exit i => exact hk.elim
      | ret =>
        cases e <;> first | exact hae.elim | skip
        exact fin .ret a S1.w ⟨.ret, S1, β, fr, st1, rfl, trivial, hi1, hk⟩
      | panic x =>
        cases e <;> first | exact hae.elim | skip
        exact fin _ a S1.w ⟨.panic x, S1, β, fr, st1, rfl, hae, hi1, hk⟩) _ _ _ hops
  unfold wpOpsS
  simp only [ho0, Region.wanted, hg0, hex, if_true, hd0]
  rcases hu c₀ cs hc with hrec | ⟨hrec, rfl, rfl⟩
  · simp only [hrec]; exact hS
  · simp only [hrec]
    have : ({ c₀ with mode := u' } : Frame) = c₀ := by cases c₀; simp only at hc; rw [hc]
    rw [this] at hS
    exact hS
end Go.Proofs.YtknocbhocdenoaaGreatDoor
