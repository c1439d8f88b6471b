/- Contracts of Go functions; regions, code and whole functions of the abstract machine. -/
import Derived.Test.YtknocbhocdenoaaGreatDoorAwK
import Derived.LoopN
namespace Go.Proofs.YtknocbhocdenoaaGreatDoor
open Go Go.RowKit

/-- How a call ends. -/
inductive AEnd where
  | ret (v : AV)
  | panic (v : AV)
def EndRel (S : Sit) : AEnd → Ending → Prop
  | .ret a, .returned v => VRel S a v
  | .panic a, .panicked chain => ∃ v, chain = [{ v, recovered := false }] ∧ VRel S a v
  | _, _ => False
/-- A function that can be entered. -/
def callable (P : Program) (f : FuncId) : Prop := ∃ fn, P.funcs[f]? = some fn ∧ (fn.name == "runtime.NumGoroutine") = false ∧ fn.body.isNone = false
/-- The contract of a function with a body: called with these arguments in this state the function ends so, in that state, whatever the memory. -/
def GoodB (P : Program) (f : FuncId) (args : List AV) (st : St) (e : AEnd) (st' : St) : Prop :=
  callable P f ∧ ∀ S (vs : Array Value), StOk S st → Rels S args vs.toList → Calls P f vs S.w fun en w' => ∃ S', S'.w = w' ∧ Ext S S' ∧ StOk S' st' ∧ EndRel S' e en
/-- The contract of a function that the model knows by itself. -/
def GoodX (P : Program) (f : FuncId) (args : List AV) (st : St) (e : AEnd) (st' : St) : Prop :=
  ∃ r, e = .ret r ∧ ∀ S (vs : Array Value), StOk S st → Rels S args vs.toList → ∃ v S', (callFunc f vs).run P S.w = .ok (.value v) S'.w ∧ Ext S S' ∧ StOk S' st' ∧ VRel S' r v
/-- THE CONTRACT. -/
def Good (P : Program) (f : FuncId) (args : List AV) (st : St) (e : AEnd) (st' : St) : Prop := GoodB P f args st e st' ∨ GoodX P f args st e st'

theorem run_callFunc {P : Program} {f : FuncId} (h : callable P f) (args : Array Value) (w : World) : (callFunc f args).run P w = .ok (.enter f args) w := by
  obtain ⟨fn, hf, hn, hb⟩ := h
  simp only [callFunc, Sem.run_bind, run_program, Result.andThen_ok, hf, hn, hb, Bool.false_eq_true, if_false, Sem.run_pure]

/-! ### Regions -/
def hasBody (P : Program) (f : FuncId) : Bool := match P.funcs[f]? with | some fn => fn.body.isSome | none => false
/-- A method that is reached without a way: the function. -/
def methF (P : Program) (t : TypeId) (name : String) : Option FuncId :=
  match P.info? t, P.underlying t with
  | some i, some d => match i.methods.find? (·.name == name) with
    | some m => match m.path.toList, m.func, d with
      | [], some (f, true), .pointer _ => bif hasBody P f then some f else none
      | [], some (_, false), .pointer _ => none
      | [], some (f, false), _ => bif hasBody P f then some f else none
      | _, _, _ => none
    | none => none
  | _, _ => none
theorem methF_run {P : Program} {t : TypeId} {name : String} {f : FuncId} (h : methF P t name = some f) (n : Nat) (v : Value) (w : World) : (method (n + 1) t v name).run P w = .ok (f, v) w := by
  unfold methF at h
  split at h
  · rename_i i d hi hd
    split at h
    · rename_i m hm
      split at h
      · rename_i f' e' hp hf
        cases hbd : hasBody P f' with
        | false => rw [hbd] at h; cases h
        | true =>
        rw [hbd] at h
        cases h
        unfold method
        simp [run_info hi, hm, hp, hf, follow, receiverAt, run_underlying hd, Place.get]
      · cases h
      · rename_i d' f' hp hfun hnp
        cases hbd : hasBody P f' with
        | false => rw [hbd] at h; cases h
        | true =>
        rw [hbd] at h
        cases h
        unfold method
        simp only [Sem.run_bind, run_info hi, Result.andThen_ok, hm, hp, hfun, follow, receiverAt, run_underlying hd, Place.get, Sem.run_pure]
      · cases h
    · cases h
  · cases h
/-- A call of a Go function: which, with what. -/
def calleeF (P : Program) (fr : Fr) (o : Oper) : Option (FuncId × List AV) :=
  match o.op with
  | .call { callee := .value f, args := xs, argTypes := _ } =>
    match fr.ev f, listEv fr xs with
    | .v (.func (.func g) first cap), some l => some (g, first ++ l ++ cap)
    | _, _ => none
  | .call { callee := .invoke r name, args := xs, argTypes := _ } =>
    match fr.ev r, listEv fr xs with
    | .v (.iface t a), some l => match methF P t name with | some g => some (g, a :: l) | none => none
    | _, _ => none
  | _ => none
def panicF (fr : Fr) (o : Oper) : Option AV :=
  match o.op with
  | .panic x => match fr.ev x with | .v (.iface t a) => some (.iface t a) | _ => none
  | _ => none
/-- One operation. -/
def opW (P : Program) (o : Oper) (fr : Fr) (st : St) (K : Tv → Fr → St → Prop) (KP : AV → Fr → St → Prop) : Prop :=
  match calleeF P fr o with
  | some (g, args) => ∃ e st', Good P g args st e st' ∧ (match e with | .ret v => K (.v v) fr st' | .panic v => KP v fr st')
  | none => match panicF fr o with
    | some v => KP v fr st
    | none => match opF P o fr st with
      | some (tv, fr', st') => K tv fr' st'
      | none => False
def dstOk (fr : Fr) (o : Oper) : Bool := match o.dst with | some d => Nat.blt d fr.N | none => true
def guardD (ops : Array Oper) (j : Nat) : Option Nat := (ops[j]?).bind (·.dst)
def regW (P : Program) (ops : Array Oper) (K : Fr → St → Prop) (KP : AV → Fr → St → Prop) : List Oper → Fr → St → Prop
  | [], fr, st => K fr st
  | o :: rest, fr, st =>
    dstOk fr o = true ∧
    match o.guard with
    | none => opW P o fr st (fun tv fr' st' => regW P ops K KP rest (fr'.put o.dst tv) st') KP
    | some (j, want) => match guardD ops j with
      | some d => match look fr.tmps d with
        | .v (.val (.bool b)) => (b = want → opW P o fr st (fun tv fr' st' => regW P ops K KP rest (fr'.put o.dst tv) st') KP) ∧ (b ≠ want → regW P ops K KP rest (fr.put o.dst (.v (.val undef))) st)
        | .v (.val (.tuple _)) => regW P ops K KP rest (fr.put o.dst (.v (.val undef))) st
        | _ => False
      | none => False

theorem calleeF_quiet {P : Program} {fr : Fr} {o : Oper} {g : FuncId} {args : List AV} (h : calleeF P fr o = some (g, args)) : isLS o fr = false ∧ stillK o = false := by
  unfold calleeF at h
  split at h
  · rename_i f xs ts ho
    exact ⟨by simp [isLS, ho], by simp [stillK, quietK, isLoad, ho]⟩
  · rename_i r name xs ts ho
    exact ⟨by simp [isLS, ho], by simp [stillK, quietK, isLoad, ho]⟩
  · cases h
theorem call_eq {P : Program} {B : Nat} {S : Sit} {β : Nat → Nat} {fr : Fr} {a : Act} (hf : FrOk B S β fr a) {o : Oper} {g : FuncId} {args : List AV} (h : calleeF P fr o = some (g, args)) :
    ∃ vs : Array Value, (∀ w, (execOp a.eval o).run P w = (callFunc g vs).run P w) ∧ Rels S args vs.toList := by
  unfold calleeF at h
  split at h
  · rename_i f xs ts ho
    split at h
    · rename_i g' first cap l hfe hl
      cases h
      have hv := vrel_ev hf hfe
      have hR := listEv_ok hf (a := a) hl
      generalize hfv : a.eval f = fv at hv
      cases hv with
      | func _ _ _ us ws h1 h2 hr1 hr2 =>
        refine ⟨us ++ xs.map a.eval ++ ws, fun w => ?_, ?_⟩
        · simp [execOp, ho, resolve, Deferred.ofValue, hfv, invoke]
        · have r1 : Rels S first us.toList := ⟨by simpa using h1, fun j b u hb hu => hr1 j b u hb (by simpa using hu)⟩
          have r2 : Rels S cap ws.toList := ⟨by simpa using h2, fun j b u hb hu => hr2 j b u hb (by simpa using hu)⟩
          simpa using (r1.append hR).append r2
    · cases h
  · rename_i r name xs ts ho
    split at h
    · rename_i t av l hre hl
      split at h
      · rename_i g' hm
        cases h
        have hv := vrel_ev hf hre
        have hR := listEv_ok hf (a := a) hl
        generalize hrv : a.eval r = rv at hv
        cases hv with
        | iface _ _ v hv =>
          refine ⟨#[v] ++ xs.map a.eval, fun w => ?_, by simpa using Rels.cons hv hR⟩
          have hmr := methF_run hm (P.types.size + 99) v w
          have ex : (xs.map a.eval) = (#[Value.iface t v] ++ xs.map a.eval).extract 1 (#[Value.iface t v] ++ xs.map a.eval).size := by
            apply Array.ext'
            simp only [Array.toList_extract, Array.toList_append, List.extract_eq_take_drop, Array.size_append, Array.size_map, List.size_toArray, List.length_cons, List.length_nil]
            simp [List.take_of_length_le]
          simp only [execOp, ho, resolve, hrv, Sem.run_bind, Sem.run_pure, Result.andThen_ok, invoke]
          simp only [callMethod, Sem.run_bind, run_program, Result.andThen_ok, Made.depth, Array.getElem?_append_left (show 0 < (#[Value.iface t v] : Array Value).size by simp), List.getElem?_toArray, List.getElem?_cons_zero, ← ex, hmr]
      · cases h
    · cases h
  · cases h
theorem panicF_inv {fr : Fr} {o : Oper} {v : AV} (h : panicF fr o = some v) : ∃ x t a, o.op = .panic x ∧ fr.ev x = .v v ∧ v = .iface t a := by
  unfold panicF at h
  split at h
  · rename_i x ho
    split at h
    · rename_i t a hx; cases h; exact ⟨x, t, a, ho, hx, rfl⟩
    · cases h
  · cases h
theorem panic_run {P : Program} {B : Nat} {S : Sit} {β : Nat → Nat} {fr : Fr} {a : Act} (hf : FrOk B S β fr a) {o : Oper} {v : AV} (h : panicF fr o = some v) : ∃ u, (execOp a.eval o).run P S.w = .halt (.panic u) S.w ∧ VRel S v u := by
  obtain ⟨x, t, av, ho, hx, rfl⟩ := panicF_inv h
  have hv := vrel_ev hf hx
  have ex : execOp a.eval o = (do pure (.value (← Instr.panic (a.eval x)))) := by simp [execOp, ho]
  rw [ex]
  clear ex
  generalize a.eval x = u at hv
  cases hv with
  | iface _ _ w hw => exact ⟨.iface t w, by simp [Instr.panic, goPanic], .iface _ _ _ hw⟩

theorem opW_ok {P : Program} {o : Oper} {fr : Fr} {st : St} {K : Tv → Fr → St → Prop} {KP : AV → Fr → St → Prop} (h : opW P o fr st K KP) {S0 S : Sit} {β : Nat → Nat} {a : Act} (hi : Inv S0 S β fr st a)
    {next : Act → World → Prop} {Q : Exit → Act → World → Prop}
    (hK : ∀ tv fr' st' S' β' v, K tv fr' st' → Inv S0 S' β' fr' st' a → TRel β' S' tv v → StepOk o fr β S S' → (∀ x, o.dst ≠ some x → β' x = β x) → next (a.put o.dst v) S'.w)
    (hP : ∀ v fr' st' S' β' u, KP v fr' st' → Inv S0 S' β' fr' st' a → VRel S' v u → Q (.panic [{ v := u, recovered := false }]) a S'.w) : o.wp P a S.w next Q := by
  unfold opW at h
  unfold Oper.wp
  split at h
  · rename_i g args hc
    obtain ⟨e, st', hg, he⟩ := h
    obtain ⟨vs, heq, hrel⟩ := call_eq hi.fr hc
    have hnl : isLS o fr = false ∧ stillK o = false := calleeF_quiet hc
    rcases hg with hg | ⟨r, rfl, hg⟩
    · rw [heq, run_callFunc hg.1]
      show Calls P g vs S.w _
      refine (hg.2 S vs hi.st hrel).mono ?_
      rintro en w' ⟨S', rfl, hx, hst, hend⟩
      have hi' : Inv S0 S' β fr st' a := ⟨hi.ext.trans hx, hst, hi.fr.ext hx⟩
      cases e with
      | ret v =>
        cases en with
        | returned u => exact hK _ _ _ _ _ _ he hi' hend (.inr (.inl ⟨hx, hnl⟩)) (fun _ _ => rfl)
        | panicked c => exact hend.elim
        | outgrown => exact hend.elim
      | panic v =>
        cases en with
        | returned u => exact hend.elim
        | panicked c =>
          obtain ⟨u, rfl, hu⟩ := hend
          exact hP _ _ _ _ _ _ he hi' hu
        | outgrown => exact hend.elim
    · obtain ⟨v, S', hrun, hx, hst, hv⟩ := hg S vs hi.st hrel
      rw [heq, hrun]
      exact hK _ _ _ _ _ _ he ⟨hi.ext.trans hx, hst, hi.fr.ext hx⟩ hv (.inr (.inl ⟨hx, hnl⟩)) (fun _ _ => rfl)
  · split at h
    · rename_i v hv
      obtain ⟨u, hrun, hu⟩ := panic_run (P := P) hi.fr hv
      rw [hrun]
      exact hP _ _ _ _ _ _ h hi hu
    · split at h
      · rename_i tv fr' st' ho
        obtain ⟨nx, S', β', hrun, hnx, hi', hstep, hb⟩ := opF_ok ho S0 S β a hi
        rw [hrun]
        rcases hnx with ⟨v, rfl, hv⟩ | ⟨rfl, rfl⟩
        · exact hK _ _ _ _ _ _ h hi' hv hstep hb
        · exact hK _ _ _ _ _ undef h hi' trivial hstep hb
      · exact h.elim

theorem Inv.put {S0 S : Sit} {β : Nat → Nat} {fr : Fr} {st : St} {a : Act} (hi : Inv S0 S β fr st a) {o : Oper} (hd : dstOk fr o = true) {tv : Tv} {v : Value} (hv : TRel β S tv v) : Inv S0 S β (fr.put o.dst tv) st (a.put o.dst v) := by
  refine ⟨hi.ext, hi.st, hi.fr.put (fun x hx => ?_) hv⟩
  unfold dstOk at hd
  rw [hx] at hd
  simpa [Nat.blt_eq] using hd
theorem Inv.N {S0 S : Sit} {β : Nat → Nat} {fr : Fr} {st : St} {a : Act} (hi : Inv S0 S β fr st a) {S' : Sit} {β' : Nat → Nat} {fr' : Fr} {st' : St} (hi' : Inv S0 S' β' fr' st' a) : fr'.N = fr.N := hi'.fr.size.symm.trans hi.fr.size

theorem guard_val {B : Nat} {S : Sit} {β : Nat → Nat} {fr : Fr} {a : Act} (hf : FrOk B S β fr a) {d : Nat} {u : Value} (hb : look fr.tmps d = .v (.val u)) : a.tmps.getD d undef = u := by
  have h := hf.tmp d
  rw [hb] at h
  exact val_inv h
theorem guard_run {ops : Array Oper} {B : Nat} {S : Sit} {β : Nat → Nat} {fr : Fr} {a : Act} (hf : FrOk B S β fr a) {j d : Nat} (hd : guardD ops j = some d) {b : Bool} (hb : look fr.tmps d = .v (.val (.bool b))) : yielded ops a.tmps j = some b := by
  have e := guard_val hf hb
  have hg : a.tmps[d]? = some (.bool b) := by
    rw [Array.getD_eq_getD_getElem?] at e
    cases hx : a.tmps[d]? with
    | none => rw [hx] at e; cases e
    | some v => rw [hx] at e; exact congrArg some e
  unfold guardD at hd
  simp [yielded, hd, hg]
theorem guard_none {ops : Array Oper} {B : Nat} {S : Sit} {β : Nat → Nat} {fr : Fr} {a : Act} (hf : FrOk B S β fr a) {j d : Nat} (hd : guardD ops j = some d) {vs : Array Value} (hb : look fr.tmps d = .v (.val (.tuple vs))) : yielded ops a.tmps j = none := by
  have e := guard_val hf hb
  unfold guardD at hd
  unfold yielded
  rw [hd]
  rw [Array.getD_eq_getD_getElem?] at e
  simp only [Option.bind_some]
  cases hx : a.tmps[d]? with
  | none => rfl
  | some v => rw [hx] at e; simp at e; rw [e]

theorem regW_ok {P : Program} {ops : Array Oper} {K : Fr → St → Prop} {KP : AV → Fr → St → Prop} {S0 : Sit} {Q : Exit → Act → World → Prop}
    (hK : ∀ fr st S β a, K fr st → Inv S0 S β fr st a → Q .normal a S.w)
    (hP : ∀ v fr st S β a u, KP v fr st → Inv S0 S β fr st a → VRel S v u → Q (.panic [{ v := u, recovered := false }]) a S.w) :
    ∀ (l : List Oper) (fr : Fr) (st : St) (S : Sit) (β : Nat → Nat) (a : Act), regW P ops K KP l fr st → Inv S0 S β fr st a → wpList P ops Q l a S.w
  | [], fr, st, S, β, a, h, hi => hK fr st S β a h hi
  | o :: rest, fr, st, S, β, a, h, hi => by
    obtain ⟨hd, h⟩ := h
    have step : opW P o fr st (fun tv fr' st' => regW P ops K KP rest (fr'.put o.dst tv) st') KP → o.wp P a S.w (wpList P ops Q rest) Q := fun hw =>
      opW_ok hw hi
        (fun tv fr' st' S' β' v hk hi' hv _ _ => by
          have hd' : dstOk fr' o = true := by
            have := hi.N hi'
            unfold dstOk at hd ⊢
            rw [this]; exact hd
          exact regW_ok hK hP rest _ _ S' β' _ hk (hi'.put hd' hv))
        (fun v fr' st' S' β' u hk hi' hu => hP _ _ _ _ _ _ _ hk hi' hu)
    unfold wpList
    cases hg : o.guard with
    | none =>
      rw [hg] at h
      rw [if_pos (by simp [Region.wanted, hg])]
      exact .inl (step h)
    | some p =>
      obtain ⟨j, want⟩ := p
      rw [hg] at h
      simp only at h
      split at h
      · rename_i d hgd
        split at h
        · rename_i b hb
          have hy := guard_run hi.fr hgd hb
          by_cases hbw : b = want
          · rw [if_pos (by simp [Region.wanted, hg, hy, hbw])]
            exact .inl (step (h.1 hbw))
          · rw [if_neg (by simp [Region.wanted, hg, hy, hbw])]
            exact regW_ok hK hP rest _ _ S β _ (h.2 hbw) (hi.put hd (.val _))
        · rename_i vs hb
          have hy := guard_none hi.fr hgd hb
          rw [if_neg (by simp [Region.wanted, hg, hy])]
          exact regW_ok hK hP rest _ _ S β _ h (hi.put hd (.val _))
        · exact h.elim
      · exact h.elim
end Go.Proofs.YtknocbhocdenoaaGreatDoor
