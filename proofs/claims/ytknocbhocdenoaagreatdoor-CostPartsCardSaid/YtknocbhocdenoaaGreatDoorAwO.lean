/- Functions of the abstract machine: a contract from a body; what may be forgotten at the end; an interpreter, and that what it answers is so. -/
import Derived.Test.YtknocbhocdenoaaGreatDoorAwN
namespace Go.Proofs.YtknocbhocdenoaaGreatDoor
open Go Go.RowKit

/-! ### The entry and the end of a function -/
def argT : Nat → List AV → List (Nat × Tv)
  | _, [] => []
  | k, a :: as => (k, .v a) :: argT (k + 1) as
def fr0 (fn : Func) (args : List AV) (objs froz : List Nat) : Fr := ⟨argT 0 args, [], max fn.ntmps args.length, objs, froz⟩
theorem look_argT : ∀ (args : List AV) (k t : Nat), look (argT k args) t = if k ≤ t then (match args[t - k]? with | some a => .v a | none => .u) else .u
  | [], k, t => by simp [argT, look]
  | a :: as, k, t => by
    rw [argT, look_cons, look_argT as (k + 1) t]
    by_cases h : k = t
    · subst h; simp
    · rw [if_neg h]
      by_cases h1 : k + 1 ≤ t
      · rw [if_pos h1, if_pos (by omega), show t - k = (t - (k + 1)) + 1 by omega]; rfl
      · rw [if_neg h1, if_neg (by omega)]
theorem frOk_entry {S : Sit} {fn : Func} {args : List AV} {vs : Array Value} (h : Rels S args vs.toList) (objs froz : List Nat) (B : Nat) (β : Nat → Nat) :
    FrOk B S β (fr0 fn args objs froz) { tmps := vs ++ Array.replicate (fn.ntmps - vs.size) undef, defers := [] } := by
  have hl : vs.size = args.length := by have := h.1; simpa using this
  refine ⟨by simp [fr0]; omega, fun t => ?_, fun x cs hx => (by cases hx), fun x y cs ds hx => (by cases hx), rfl⟩
  show TRel β S (look (argT 0 args) t) _
  rw [look_argT]
  simp only [Nat.zero_le, if_true, Nat.sub_zero]
  split
  · rename_i a ha
    obtain ⟨u, hu, hr⟩ := h.get ha
    have hu' : vs[t]? = some u := by simpa using hu
    have hlt : t < vs.size := (Array.getElem?_eq_some_iff.1 hu').1
    have : (vs ++ Array.replicate (fn.ntmps - vs.size) undef).getD t undef = u := by
      rw [Array.getD_eq_getD_getElem?, Array.getElem?_append_left hlt, hu']; rfl
    rw [this]; exact hr
  · trivial

/-- What the body must bring. -/
def FnK (P : Program) (fn : Func) (Q : AEnd → St → Prop) : AExit → Fr → St → Prop
  | .normal, fr, st | .ret, fr, st => ∃ v, resF P fn fr st = some v ∧ Q (.ret v) st
  | .panic v, _, st => Q (.panic v) st
  | .exit _, _, _ => False
/-- From a call's own end (e1, st1) to what is said of it (e, st'). -/
def Lv (st st' : St) (e : AEnd) (e1 : AEnd) (st1 : St) : Prop :=
  ∀ S0 S en, StOk S0 st → Ext S0 S → StOk S st1 → EndRel S e1 en → ∃ S', S'.w = S.w ∧ Ext S0 S' ∧ StOk S' st' ∧ EndRel S' e en
theorem Lv.refl (st st' : St) (e : AEnd) : Lv st st' e e st' := fun _ S _ _ hx hs he => ⟨S, rfl, hx, hs, he⟩
theorem good_of {P : Program} {f : FuncId} {fn : Func} {c : Code} (hf : P.funcs[f]? = some fn) (hb : fn.body = some c) (hn : (fn.name == "runtime.NumGoroutine") = false) (objs froz : List Nat) {args : List AV} {st st' : St} {e : AEnd}
    (h : WpA P c (FnK P fn (Lv st st' e)) (fr0 fn args objs froz) st) : Good P f args st e st' := by
  refine .inl ⟨⟨fn, hf, hn, by rw [hb]; rfl⟩, fun S vs hst hr => ?_⟩
  refine calls_of_wp hf hb ?_
  have hi : Inv S S (fun _ => 0) (fr0 fn args objs froz) st { tmps := vs ++ Array.replicate (fn.ntmps - vs.size) undef, defers := [] } := ⟨.refl S, hst, frOk_entry hr objs froz _ _⟩
  refine Go.Code.wp_mono ?_ (h S S _ _ hi)
  rintro ex a w ⟨ae, S1, β, fr, st1, rfl, hae, hi1, hk⟩
  have fin : ∀ v, resF P fn fr st1 = some v → Lv st st' e (.ret v) st1 → a.defers = [] ∧ ∃ u, (results fn a.tmps).run P S1.w = .ok u S1.w ∧ ∃ S', S'.w = S1.w ∧ Ext S S' ∧ StOk S' st' ∧ EndRel S' e (.returned u) := by
    intro v hv hl
    obtain ⟨u, hu, hru⟩ := resF_ok hi1 hv
    obtain ⟨S', h1, h2, h3, h4⟩ := hl S S1 (.returned u) hst hi1.ext hi1.st hru
    exact ⟨hi1.fr.defers, u, hu, S', h1, h2, h3, h4⟩
  cases ae with
  | normal =>
    cases ex <;> first | exact hae.elim | skip
    obtain ⟨v, hv, hl⟩ := hk
    exact fin v hv hl
  | ret =>
    cases ex <;> first | exact hae.elim | skip
    obtain ⟨v, hv, hl⟩ := hk
    exact fin v hv hl
  | exit i => exact hk.elim
  | panic v =>
    cases ex <;> first | exact hae.elim | skip
    rename_i chain
    obtain ⟨u, rfl, hu⟩ := hae
    obtain ⟨S', h1, h2, h3, h4⟩ := hk S S1 (.panicked [{ v := u, recovered := false }]) hst hi1.ext hi1.st ⟨u, rfl, hu⟩
    exact ⟨hi1.fr.defers, S', h1, h2, h3, h4⟩

/-! ### Values that are seen to be the same -/
def vbeq : Value → Value → Bool
  | .bool a, .bool b => a == b
  | .int k a, .int j b => decide (k = j) && a == b
  | .string a, .string b => a.data.toList == b.data.toList
  | .pointer none, .pointer none => true
  | .nilIface, .nilIface => true
  | _, _ => false
theorem vbeq_eq {a b : Value} (h : vbeq a b = true) : a = b := by
  unfold vbeq at h
  split at h
  · rw [eq_of_beq h]
  · rw [Bool.and_eq_true] at h
    rw [of_decide_eq_true h.1, eq_of_beq h.2]
  · rename_i x y
    obtain ⟨x⟩ := x; obtain ⟨y⟩ := y
    have h2 : x = y := Array.toList_inj.1 (eq_of_beq h)
    rw [h2]
  · rfl
  · rfl
  · cases h
def obeq : Own → Own → Bool
  | .ro, .ro => true
  | .nil, .nil => true
  | .row a, .row b => a == b
  | _, _ => false
theorem obeq_eq {a b : Own} (h : obeq a b = true) : a = b := by
  unfold obeq at h
  split at h <;> first | rfl | rw [eq_of_beq h] | cases h
mutual
def AV.beq : AV → AV → Bool
  | .undef, .undef => true
  | .val a, .val b => vbeq a b
  | .ptr i o, .ptr j p => i == j && o == p
  | .rptr cs o, .rptr ds p => AV.beqL cs ds && o == p
  | .slice w cs n, .slice x ds m => obeq w x && AV.beqL cs ds && n == m
  | .map i, .map j => i == j
  | .osl i o n c, .osl j p m d => i == j && o == p && n == m && c == d
  | .iface t a, .iface u b => t == u && AV.beq a b
  | .func (.func f) a b, .func (.func g) c d => f == g && AV.beqL a c && AV.beqL b d
  | .agg cs, .agg ds => AV.beqL cs ds
  | .tuple cs, .tuple ds => AV.beqL cs ds
  | _, _ => false
def AV.beqL : List AV → List AV → Bool
  | [], [] => true
  | a :: as, b :: bs => AV.beq a b && AV.beqL as bs
  | _, _ => false
end
mutual
theorem AV.beq_eq : ∀ (a b : AV), AV.beq a b = true → a = b
  | .undef, b, h => by cases b <;> simp [AV.beq] at h; rfl
  | .val a, b, h => by cases b <;> simp [AV.beq] at h; rw [vbeq_eq h]
  | .ptr i o, b, h => by cases b <;> simp [AV.beq] at h; rw [h.1, h.2]
  | .rptr cs o, b, h => by cases b <;> simp [AV.beq] at h; rw [AV.beqL_eq cs _ h.1, h.2]
  | .slice w cs n, b, h => by cases b <;> simp [AV.beq] at h; rw [obeq_eq h.1.1, AV.beqL_eq cs _ h.1.2, h.2]
  | .map i, b, h => by cases b <;> simp [AV.beq] at h; rw [h]
  | .osl i o n c, b, h => by cases b <;> simp [AV.beq] at h; rw [h.1.1.1, h.1.1.2, h.1.2, h.2]
  | .iface t a, b, h => by cases b <;> simp [AV.beq] at h; rw [h.1, AV.beq_eq a _ h.2]
  | .func fn a c, b, h => by
    cases fn <;> cases b <;> try (simp [AV.beq] at h; done)
    rename_i f g d e
    cases g <;> try (simp [AV.beq] at h; done)
    simp [AV.beq] at h
    rw [h.1.1, AV.beqL_eq a _ h.1.2, AV.beqL_eq c _ h.2]
  | .agg cs, b, h => by cases b <;> simp [AV.beq] at h; rw [AV.beqL_eq cs _ h]
  | .tuple cs, b, h => by cases b <;> simp [AV.beq] at h; rw [AV.beqL_eq cs _ h]
theorem AV.beqL_eq : ∀ (as bs : List AV), AV.beqL as bs = true → as = bs
  | [], bs, h => by cases bs <;> simp [AV.beqL] at h; rfl
  | a :: as, bs, h => by
    cases bs with
    | nil => simp [AV.beqL] at h
    | cons b bs =>
      simp [AV.beqL] at h
      rw [AV.beq_eq a b h.1, AV.beqL_eq as bs h.2]
end
def Tv.beq : Tv → Tv → Bool
  | .u, .u => true
  | .l x o, .l y p => x == y && o == p
  | .v a, .v b => AV.beq a b
  | _, _ => false
theorem Tv.beq_eq {a b : Tv} (h : a.beq b = true) : a = b := by
  cases a <;> cases b <;> simp [Tv.beq] at h
  · rfl
  · rw [h.1, h.2]
  · rw [AV.beq_eq _ _ h]
def beqBoxes : List (Nat × List AV) → List (Nat × List AV) → Bool
  | [], [] => true
  | (x, cs) :: l, (y, ds) :: m => x == y && AV.beqL cs ds && beqBoxes l m
  | _, _ => false
theorem beqBoxes_eq : ∀ {l m : List (Nat × List AV)}, beqBoxes l m = true → l = m
  | [], [], _ => rfl
  | [], _ :: _, h => by simp [beqBoxes] at h
  | _ :: _, [], h => by simp [beqBoxes] at h
  | (x, cs) :: l, (y, ds) :: m, h => by
    simp [beqBoxes] at h
    rw [h.1.1, AV.beqL_eq _ _ h.1.2, beqBoxes_eq h.2]
def beqNats : List Nat → List Nat → Bool
  | [], [] => true
  | x :: l, y :: m => x == y && beqNats l m
  | _, _ => false
/-- Is what fr says also what fr2 says? -/
def frBeq (fr fr2 : Fr) : Bool := beqBoxes fr.boxes fr2.boxes && fr.N == fr2.N && fr.tmps.all (fun p => (look fr.tmps p.1).beq (look fr2.tmps p.1))
theorem look_none : ∀ {l : List (Nat × Tv)} {t : Nat}, (∀ p ∈ l, p.1 ≠ t) → look l t = .u
  | [], _, _ => rfl
  | (k, x) :: r, t, h => by
    rw [look_cons, if_neg (h (k, x) (by simp)), look_none fun p hp => h p (List.mem_cons_of_mem _ hp)]
theorem frBeq_le {fr fr2 : Fr} (h : frBeq fr fr2 = true) : FrLe fr2 fr := by
  unfold frBeq at h
  simp only [Bool.and_eq_true] at h
  refine frLe_look (beqBoxes_eq h.1.1) (eq_of_beq h.1.2) fun t => ?_
  by_cases ht : ∃ p ∈ fr.tmps, p.1 = t
  · obtain ⟨p, hp, rfl⟩ := ht
    exact .inl (Tv.beq_eq (List.all_eq_true.1 h.2 p hp))
  · exact .inr (look_none fun p hp he => ht ⟨p, hp, he⟩)
def orBeq : List (Option Nat) → List (Option Nat) → Bool
  | [], [] => true
  | none :: l, none :: m => orBeq l m
  | some x :: l, some y :: m => x == y && orBeq l m
  | _, _ => false
theorem orBeq_eq : ∀ {l m : List (Option Nat)}, orBeq l m = true → l = m
  | [], [], _ => rfl
  | [], _ :: _, h => by simp [orBeq] at h
  | none :: _, [], h => by simp [orBeq] at h
  | some _ :: _, [], h => by simp [orBeq] at h
  | none :: l, none :: m, h => by simp [orBeq] at h; rw [orBeq_eq h]
  | none :: l, some _ :: m, h => by simp [orBeq] at h
  | some _ :: l, none :: m, h => by simp [orBeq] at h
  | some x :: l, some y :: m, h => by simp [orBeq] at h; rw [h.1, orBeq_eq h.2]
def meBeq : List (ByteArray × AV) → List (ByteArray × AV) → Bool
  | [], [] => true
  | (x, a) :: l, (y, b) :: m => x.data.toList == y.data.toList && AV.beq a b && meBeq l m
  | _, _ => false
theorem meBeq_eq : ∀ {l m : List (ByteArray × AV)}, meBeq l m = true → l = m
  | [], [], _ => rfl
  | [], _ :: _, h => by simp [meBeq] at h
  | _ :: _, [], h => by simp [meBeq] at h
  | (⟨x⟩, a) :: l, (⟨y⟩, b) :: m, h => by
    simp only [meBeq, Bool.and_eq_true] at h
    rw [Array.toList_inj.1 (eq_of_beq h.1.1), AV.beq_eq _ _ h.1.2, meBeq_eq h.2]
def obBeq : AObj → AObj → Bool
  | .cells a, .cells b => AV.beqL a b
  | .map a, .map b => meBeq a b
  | _, _ => false
def memBeq : List AObj → List AObj → Bool
  | [], [] => true
  | a :: l, b :: m => obBeq a b && memBeq l m
  | _, _ => false
theorem obBeq_eq {a b : AObj} (h : obBeq a b = true) : a = b := by
  cases a <;> cases b <;> simp [obBeq] at h
  · rw [AV.beqL_eq _ _ h]
  · rw [meBeq_eq h]
theorem memBeq_eq : ∀ {l m : List AObj}, memBeq l m = true → l = m
  | [], [], _ => rfl
  | [], _ :: _, h => by simp [memBeq] at h
  | _ :: _, [], h => by simp [memBeq] at h
  | a :: l, b :: m, h => by
    simp only [memBeq, Bool.and_eq_true] at h
    rw [obBeq_eq h.1, memBeq_eq h.2]
def stBeq (a b : St) : Bool := memBeq a.mem b.mem && orBeq a.rows b.rows
theorem stBeq_eq {a b : St} (h : stBeq a b = true) : a = b := by
  unfold stBeq at h
  rw [Bool.and_eq_true] at h
  obtain ⟨m, r⟩ := a
  obtain ⟨m', r'⟩ := b
  have h1 := memBeq_eq h.1
  have h2 := orBeq_eq h.2
  simp at h1 h2
  rw [h1, h2]

/-! ### The interpreter -/
abbrev Evl := FuncId → List AV → St → Option (AEnd × St)
def Sound (P : Program) (E : Evl) : Prop := ∀ f args st e st', E f args st = some (e, st') → Good P f args st e st'

def guardV (ops : Array Oper) (o : Oper) (fr : Fr) : Option Bool :=
  match o.guard with
  | none => some true
  | some (j, want) => match guardD ops j with
    | some d => match look fr.tmps d with
      | .v (.val (.bool b)) => some (b == want)
      | .v (.val (.tuple _)) => some false
      | _ => none
    | none => none
/-- One operation: a value, or a panic. -/
def evOp (P : Program) (E : Evl) (o : Oper) (fr : Fr) (st : St) : Option ((Tv × Fr × St) ⊕ (AV × St)) :=
  match calleeF P fr o with
  | some (g, args) => match E g args st with
    | some (.ret v, st') => some (.inl (.v v, fr, st'))
    | some (.panic v, st') => some (.inr (v, st'))
    | none => none
  | none => match panicF fr o with
    | some v => some (.inr (v, st))
    | none => match opF P o fr st with
      | some r => some (.inl r)
      | none => none
def evOps (P : Program) (E : Evl) (ops : Array Oper) : List Oper → Fr → St → Option (AExit × Fr × St)
  | [], fr, st => some (.normal, fr, st)
  | o :: rest, fr, st =>
    match dstOk fr o, guardV ops o fr with
    | true, some true => match evOp P E o fr st with
      | some (.inl (tv, fr', st')) => evOps P E ops rest (fr'.put o.dst tv) st'
      | some (.inr (v, st')) => some (.panic v, fr, st')
      | none => none
    | true, some false => evOps P E ops rest (fr.put o.dst (.v (.val undef))) st
    | _, _ => none
def evTr (P : Program) (E : Evl) (ops : Array Oper) (ls L : List Nat) : Tr → Fr → St → Option (AExit × Fr × St)
  | .done, fr, st => some (.normal, fr, st)
  | .q i ob t, fr, st => match ops[i]? with
    | some o => match dstOk fr o, guardV ops o fr with
      | true, some true => match ldOk ops L ob o fr, opF P o fr st with
        | true, some (tv, fr', st') => evTr P E ops ls L t (fr'.put o.dst tv) st'
        | _, _ => none
      | true, some false => evTr P E ops ls L t (fr.put o.dst (.v (.val undef))) st
      | _, _ => none
    | none => none
  | .w i t, fr, st => match ops[i]? with
    | some o => match dstOk fr o, guardV ops o fr with
      | true, some true => match stOk ops ls L i o fr, evOp P E o fr st with
        | true, some (.inl (tv, fr', st')) => evTr P E ops ls L t (fr'.put o.dst tv) st'
        | true, some (.inr (v, st')) => some (.panic v, fr, st')
        | _, _ => none
      | true, some false => evTr P E ops ls L t (fr.put o.dst (.v (.val undef))) st
      | _, _ => none
    | none => none
  | .b i t j u, fr, st =>
    match ops[i]?, ops[j]? with
    | some o, some o' => match dstOk fr o, guardV ops o fr, dstOk fr o', guardV ops o' fr with
      | true, some true, true, some true => match stOk ops ls L i o fr, evOp P E o fr st, stOk ops ls L j o' fr, evOp P E o' fr st with
        | true, some (.inl (tv, fr', st')), true, some (.inl (tv2, fr2, st2)) => match evTr P E ops ls L t (fr'.put o.dst tv) st', evTr P E ops ls L u (fr2.put o'.dst tv2) st2 with
          | some (.normal, f1, s1), some (.normal, f2, s2) => bif frBeq f1 f2 && stBeq s1 s2 then some (.normal, f1, s1) else none
          | _, _ => none
        | true, some (.inr (v, st')), true, some (.inl (tv2, fr2, st2)) => match evTr P E ops ls L u (fr2.put o'.dst tv2) st2 with
          | some (.panic v2, _, s2) => bif AV.beq v v2 && stBeq st' s2 then some (.panic v, { fr with tmps := [] }, st') else none
          | _ => none
        | _, _, _, _ => none
      | _, _, _, _ => none
    | _, _ => none
def evLoop (F : Fr → St → Option (AExit × Fr × St)) : Nat → Fr → St → Option (AExit × Fr × St)
  | 0, _, _ => none
  | n + 1, fr, st => match F fr st with
    | some (.normal, fr', st') => evLoop F n fr' st'
    | r => r
def regL (fr : Fr) : List Nat := fr.boxes.map (·.1)
/-- Orders of drawn regions: by the region's number in its function. -/
def evC (P : Program) (E : Evl) (T : Nat → Option Sch) (m : Nat) : Code → Fr → St → Option (AExit × Fr × St)
  | .skip, fr, st => some (.normal, fr, st)
  | .ret, fr, st => some (.ret, fr, st)
  | .label _, fr, st => some (.normal, fr, st)
  | .scope c, fr, st => evC P E T m c fr st
  | .exit i, fr, st => some (.exit i, fr, st)
  | .seq x y, fr, st => match evC P E T m x fr st with
    | some (.normal, fr', st') => evC P E T m y fr' st'
    | r => r
  | .cond c x y, fr, st => match fr.ev c with
    | .v (.val (.bool true)) => evC P E T m x fr st
    | .v (.val (.bool false)) => evC P E T m y fr st
    | _ => none
  | .block i c, fr, st => match evC P E T m c fr st with
    | some (.exit j, fr', st') => if j = i then some (.normal, fr', st') else some (.exit j, fr', st')
    | r => r
  | .loop c, fr, st => evLoop (evC P E T m c) m fr st
  | .region _ ops false, fr, st => evOps P E ops ops.toList fr st
  | .region id ops true, fr, st => match T id with
    | some s => evTr P E ops s.ls (regL fr) s.t fr st
    | none => none
  | _, _, _ => none

/-- Every drawn region of the code has an order in the table, and the order serves. -/
def codeOk (T : Nat → Option Sch) : Code → Bool
  | .seq x y => codeOk T x && codeOk T y
  | .cond _ x y => codeOk T x && codeOk T y
  | .block _ c => codeOk T c
  | .loop c => codeOk T c
  | .scope c => codeOk T c
  | .region id ops true => match T id with
    | some s => okS ops s
    | none => true
  | _ => true

theorem guardV_W {ops : Array Oper} {o : Oper} {fr : Fr} {b : Bool} (h : guardV ops o fr = some b) {yes no : Prop} (h1 : b = true → yes) (h2 : b = false → no) : guardW ops o fr yes no := by
  unfold guardV at h
  unfold guardW
  split at h
  · rename_i hg; rw [hg]; cases h; exact h1 rfl
  · rename_i j want hg
    rw [hg]
    split at h
    · rename_i d hd
      simp only [hd]
      split at h
      · rename_i c hb
        simp only [hb]
        cases h
        refine ⟨fun hb => h1 ?_, fun hb => h2 ?_⟩
        · subst hb; simp
        · simpa using hb
      · rename_i vs hb
        simp only [hb]
        cases h
        exact h2 rfl
      · cases h
    · cases h
theorem evOp_W {P : Program} {E : Evl} (hE : Sound P E) {o : Oper} {fr : Fr} {st : St} {K : Tv → Fr → St → Prop} {KP : AV → Fr → St → Prop} :
    (∀ tv fr' st', evOp P E o fr st = some (.inl (tv, fr', st')) → K tv fr' st' → opW P o fr st K KP) ∧ (∀ v st', evOp P E o fr st = some (.inr (v, st')) → KP v fr st' → opW P o fr st K KP) := by
  unfold evOp opW
  cases hc : calleeF P fr o with
  | some p =>
    obtain ⟨g, args⟩ := p
    simp only
    cases he : E g args st with
    | none => exact ⟨fun _ _ _ h => (by cases h), fun _ _ h => (by cases h)⟩
    | some q =>
      obtain ⟨e, st1⟩ := q
      cases e with
      | ret u => exact ⟨fun tv fr' st' h hk => (by cases h; exact ⟨_, _, hE _ _ _ _ _ he, hk⟩), fun _ _ h => (by cases h)⟩
      | panic u => exact ⟨fun _ _ _ h => (by cases h), fun v st' h hk => (by cases h; exact ⟨_, _, hE _ _ _ _ _ he, hk⟩)⟩
  | none =>
    simp only
    cases hp : panicF fr o with
    | some v => exact ⟨fun _ _ _ h => (by cases h), fun v st' h hk => (by cases h; exact hk)⟩
    | none =>
      simp only
      cases ho : opF P o fr st with
      | some r => exact ⟨fun tv fr' st' h hk => (by cases h; exact hk), fun _ _ h => (by cases h)⟩
      | none => exact ⟨fun _ _ _ h => (by cases h), fun _ _ h => (by cases h)⟩

theorem regW_guard {P : Program} {ops : Array Oper} {K : Fr → St → Prop} {KP : AV → Fr → St → Prop} {o : Oper} {rest : List Oper} {fr : Fr} {st : St} (hd : dstOk fr o = true)
    (h : guardW ops o fr (opW P o fr st (fun tv fr' st' => regW P ops K KP rest (fr'.put o.dst tv) st') KP) (regW P ops K KP rest (fr.put o.dst (.v (.val undef))) st)) : regW P ops K KP (o :: rest) fr st := by
  refine ⟨hd, ?_⟩
  unfold guardW at h
  split
  · rename_i hg; rw [hg] at h; exact h
  · rename_i j want hg; rw [hg] at h; exact h
def At (r : AExit × Fr × St) (K : AExit → Fr → St → Prop) : Prop := K r.1 r.2.1 r.2.2
theorem evOps_ok {P : Program} {E : Evl} (hE : Sound P E) {ops : Array Oper} {K : AExit → Fr → St → Prop} : ∀ (l : List Oper) (fr : Fr) (st : St) (r : AExit × Fr × St), evOps P E ops l fr st = some r → At r K → regW P ops (K .normal) (fun v => K (.panic v)) l fr st
  | [], fr, st, r, h, hk => by cases h; exact hk
  | o :: rest, fr, st, r, h, hk => by
    unfold evOps at h
    split at h
    · rename_i hd hg
      refine regW_guard hd (guardV_W hg (fun _ => ?_) (fun hb => by cases hb))
      split at h
      · rename_i tv fr' st' ho
        exact (evOp_W hE).1 _ _ _ ho (evOps_ok hE rest _ _ r h hk)
      · rename_i v st' ho
        cases h
        exact (evOp_W hE).2 _ _ ho hk
      · cases h
    · rename_i hd hg
      exact regW_guard hd (guardV_W hg (fun hb => by cases hb) (fun _ => evOps_ok hE rest _ _ r h hk))
    · cases h
theorem evTr_ok {P : Program} {E : Evl} (hE : Sound P E) {ops : Array Oper} {ls L : List Nat} {K : AExit → Fr → St → Prop} (hKP : ∀ v fr fr' st, K (.panic v) fr st → K (.panic v) fr' st) :
    ∀ (t : Tr) (fr : Fr) (st : St) (r : AExit × Fr × St), evTr P E ops ls L t fr st = some r → At r (Wide K) → regT P ops ls L (Wide K .normal) (fun v => K (.panic v)) t fr st
  | .done, fr, st, r, h, hk => by cases h; exact hk
  | .b i t j u, fr, st, r, h, hk => by
    unfold evTr at h
    unfold regT
    split at h
    · rename_i o o' ho ho'
      rw [ho, ho']
      split at h
      · rename_i hd hg hd' hg'
        split at h
        · rename_i tv fr' st' tv2 fr2 st2 hl hop hl' hop'
          split at h
          · rename_i f1 s1 f2 s2 e1 e2
            cases hb : (frBeq f1 f2 && stBeq s1 s2) with
            | false => rw [hb] at h; cases h
            | true =>
              rw [hb] at h
              cases h
              rw [Bool.and_eq_true] at hb
              have hs := stBeq_eq hb.2
              subst hs
              obtain ⟨f3, hle, hk'⟩ := hk
              refine ⟨⟨hd, guardV_W hg (fun _ => ⟨hl, (evOp_W hE).1 _ _ _ hop (evTr_ok hE hKP t _ _ _ e1 ⟨f3, hle, hk'⟩)⟩) (fun hb => by cases hb)⟩,
                ⟨hd', guardV_W hg' (fun _ => ⟨hl', (evOp_W hE).1 _ _ _ hop' (evTr_ok hE hKP u _ _ _ e2 ⟨f3, fun B S β a hf => hle _ _ _ _ (frBeq_le hb.1 _ _ _ _ hf), hk'⟩)⟩) (fun hb => by cases hb)⟩⟩
          · cases h
        · rename_i v st' tv2 fr2 st2 hl hop hl' hop'
          split at h
          · rename_i v2 f2 s2 e2
            cases hb : (AV.beq v v2 && stBeq st' s2) with
            | false => rw [hb] at h; cases h
            | true =>
              rw [hb] at h
              cases h
              rw [Bool.and_eq_true] at hb
              have hs := stBeq_eq hb.2
              have hv := AV.beq_eq _ _ hb.1
              subst hs; subst hv
              have hk' : K (.panic v) { fr with tmps := [] } st' := hk
              refine ⟨⟨hd, guardV_W hg (fun _ => ⟨hl, (evOp_W hE).2 _ _ hop (hKP _ _ _ _ hk')⟩) (fun hb => by cases hb)⟩,
                ⟨hd', guardV_W hg' (fun _ => ⟨hl', (evOp_W hE).1 _ _ _ hop' (evTr_ok hE hKP u _ _ _ e2 (show K (.panic v) f2 st' from hKP _ _ _ _ hk'))⟩) (fun hb => by cases hb)⟩⟩
          · cases h
        · cases h
      · cases h
    · cases h
  | .q i ob t, fr, st, r, h, hk => by
    unfold evTr at h
    unfold regT
    split at h
    · rename_i o ho
      rw [ho]
      split at h
      · rename_i hd hg
        refine ⟨hd, guardV_W hg (fun _ => ?_) (fun hb => by cases hb)⟩
        split at h
        · rename_i tv fr' st' hl hop
          rw [hop]
          exact ⟨hl, evTr_ok hE hKP t _ _ r h hk⟩
        · cases h
      · rename_i hd hg
        exact ⟨hd, guardV_W hg (fun hb => by cases hb) (fun _ => evTr_ok hE hKP t _ _ r h hk)⟩
      · cases h
    · cases h
  | .w i t, fr, st, r, h, hk => by
    unfold evTr at h
    unfold regT
    split at h
    · rename_i o ho
      rw [ho]
      split at h
      · rename_i hd hg
        refine ⟨hd, guardV_W hg (fun _ => ?_) (fun hb => by cases hb)⟩
        split at h
        · rename_i tv fr' st' hl hop
          exact ⟨hl, (evOp_W hE).1 _ _ _ hop (evTr_ok hE hKP t _ _ r h hk)⟩
        · rename_i v st' hl hop
          cases h
          exact ⟨hl, (evOp_W hE).2 _ _ hop hk⟩
        · cases h
      · rename_i hd hg
        exact ⟨hd, guardV_W hg (fun hb => by cases hb) (fun _ => evTr_ok hE hKP t _ _ r h hk)⟩
      · cases h
    · cases h
theorem evLoop_ok {P : Program} {c : Code} {K : AExit → Fr → St → Prop} {F : Fr → St → Option (AExit × Fr × St)} (hF : ∀ (K : AExit → Fr → St → Prop), (∀ v fr fr' st, K (.panic v) fr st → K (.panic v) fr' st) → ∀ fr st r, F fr st = some r → At r K → WpA P c K fr st)
    (hKP : ∀ v fr fr' st, K (.panic v) fr st → K (.panic v) fr' st) : ∀ (n : Nat) (fr : Fr) (st : St) (r : AExit × Fr × St), evLoop F n fr st = some r → At r K → LoopA P c K n fr st
  | 0, fr, st, r, h, hk => by cases h
  | n + 1, fr, st, r, h, hk => by
    unfold evLoop at h
    refine hF (fun | .normal => LoopA P c K n | e => K e) hKP fr st ?_ ?_ ?_
    · exact (F fr st).getD (.normal, fr, st)
    · cases hf : F fr st with
      | none => rw [hf] at h; cases h
      | some r' => rfl
    · cases hf : F fr st with
      | none => rw [hf] at h; cases h
      | some r' =>
        rw [hf] at h
        obtain ⟨e, fr', st'⟩ := r'
        cases e with
        | normal => exact evLoop_ok hF hKP n fr' st' r h hk
        | _ => cases h; exact hk
theorem evC_ok {P : Program} (hm : P.follows .mixedOrders = true) {E : Evl} (hE : Sound P E) {T : Nat → Option Sch} {m : Nat} : ∀ (c : Code) (_ : codeOk T c = true) (K : AExit → Fr → St → Prop) (_ : ∀ v fr fr' st, K (.panic v) fr st → K (.panic v) fr' st) (fr : Fr) (st : St) (r : AExit × Fr × St), evC P E T m c fr st = some r → At r K → WpA P c K fr st
  | .skip, _, K, _, fr, st, r, h, hk => by cases h; exact wpA_skip hk
  | .ret, _, K, _, fr, st, r, h, hk => by cases h; exact wpA_ret hk
  | .label l, _, K, _, fr, st, r, h, hk => by cases h; exact wpA_label hk
  | .scope c, hc, K, hKP, fr, st, r, h, hk => wpA_scope (evC_ok hm hE c hc K hKP fr st r h hk)
  | .exit i, _, K, _, fr, st, r, h, hk => by cases h; exact wpA_exit hk
  | .seq x y, hc, K, hKP, fr, st, r, h, hk => by
    simp only [codeOk, Bool.and_eq_true] at hc
    unfold evC at h
    cases hx : evC P E T m x fr st with
    | none => rw [hx] at h; cases h
    | some r' =>
      rw [hx] at h
      refine wpA_seq (evC_ok hm hE x hc.1 (seqK P y K) hKP fr st r' hx ?_)
      obtain ⟨e, fr', st'⟩ := r'
      cases e with
      | normal => exact evC_ok hm hE y hc.2 K hKP fr' st' r h hk
      | _ => cases h; exact hk
  | .cond c x y, hc, K, hKP, fr, st, r, h, hk => by
    simp only [codeOk, Bool.and_eq_true] at hc
    unfold evC at h
    split at h
    · rename_i hb
      exact wpA_cond hb (fun _ => evC_ok hm hE x hc.1 K hKP fr st r h hk) (fun hf => by cases hf)
    · rename_i hb
      exact wpA_cond hb (fun hf => by cases hf) (fun _ => evC_ok hm hE y hc.2 K hKP fr st r h hk)
    · cases h
  | .block i c, hc, K, hKP, fr, st, r, h, hk => by
    simp only [codeOk] at hc
    unfold evC at h
    cases hx : evC P E T m c fr st with
    | none => rw [hx] at h; cases h
    | some r' =>
      rw [hx] at h
      refine wpA_block (evC_ok hm hE c hc (blockK i K) hKP fr st r' hx ?_)
      obtain ⟨e, fr', st'⟩ := r'
      cases e with
      | exit j =>
        simp only at h
        show blockK i K (.exit j) fr' st'
        simp only [blockK]
        split
        · rename_i hj; rw [if_pos hj] at h; cases h; exact hk
        · rename_i hj; rw [if_neg hj] at h; cases h; exact hk
      | _ => cases h; exact hk
  | .loop c, hc, K, hKP, fr, st, r, h, hk => by
    simp only [codeOk] at hc
    exact wpA_loop m (evLoop_ok (fun K hKP fr st r h hk => evC_ok hm hE c hc K hKP fr st r h hk) hKP m fr st r h hk)
  | .region id ops false, _, K, _, fr, st, r, h, hk => wpA_region (evOps_ok hE ops.toList fr st r h hk)
  | .region id ops true, hc, K, hKP, fr, st, r, h, hk => by
    unfold evC at h
    split at h
    · rename_i t ht
      simp only [codeOk, ht] at hc
      refine wpA_drawn hm t _ hc (fun v fr st h => hKP v fr _ st h) (evTr_ok hE hKP t.t fr st r h ?_)
      obtain ⟨e, fr', st'⟩ := r
      cases e with
      | normal => exact ⟨fr', .refl fr', hk⟩
      | _ => exact hk
    · cases h

/-- A law for functions that the interpreter does not read. -/
abbrev Prims := FuncId → Option (Evl → List AV → St → Option (AEnd × St))
structure Cfg where
  prims : Prims
  tr : FuncId → Nat → Option Sch
  objs : FuncId → List Nat
  froz : FuncId → List Nat
def evF (P : Program) (C : Cfg) : Nat → Evl
  | 0, _, _, _ => none
  | n + 1, f, args, st => match C.prims f with
    | some F => F (evF P C n) args st
    | none => match P.funcs[f]? with
      | some fn => match fn.body with
        | some c => match evC P (evF P C n) (C.tr f) n c (fr0 fn args (C.objs f) (C.froz f)) st with
          | some (.normal, fr, st') => (resF P fn fr st').map fun v => (.ret v, st')
          | some (.ret, fr, st') => (resF P fn fr st').map fun v => (.ret v, st')
          | some (.panic v, _, st') => some (.panic v, st')
          | _ => none
        | none => none
      | none => none
def nameOk (fn : Func) : Bool := !(fn.name == "runtime.NumGoroutine")
def funcOk (C : Cfg) (f : FuncId) (fn : Func) : Bool := nameOk fn && match fn.body with | some c => codeOk (C.tr f) c | none => true
structure CfgOk (P : Program) (C : Cfg) : Prop where
  mixed : P.follows .mixedOrders = true
  prim : ∀ f F, C.prims f = some F → ∀ E, Sound P E → ∀ args st e st', F E args st = some (e, st') → Good P f args st e st'
  func : ∀ f fn, P.funcs[f]? = some fn → funcOk C f fn = true
theorem evF_ok {P : Program} {C : Cfg} (hC : CfgOk P C) : ∀ n, Sound P (evF P C n)
  | 0, _, _, _, _, _, h => by cases h
  | n + 1, f, args, st, e, st', h => by
    unfold evF at h
    split at h
    · rename_i F hF
      exact hC.prim f F hF _ (evF_ok hC n) args st e st' h
    · split at h
      · rename_i fn hf
        have hok := hC.func f fn hf
        unfold funcOk at hok
        rw [Bool.and_eq_true] at hok
        obtain ⟨hn, hco⟩ := hok
        have hn' : (fn.name == "runtime.NumGoroutine") = false := by simpa [nameOk] using hn
        split at h
        · rename_i c hb
          rw [hb] at hco
          refine good_of hf hb hn' (C.objs f) (C.froz f) ?_
          have go := evC_ok hC.mixed (evF_ok hC n) (T := C.tr f) (m := n) c hco (FnK P fn (Lv st st' e)) (fun _ _ _ _ h => h) (fr0 fn args (C.objs f) (C.froz f)) st
          split at h
          · rename_i fr s1 hr
            rw [Option.map_eq_some_iff] at h
            obtain ⟨v, hv, he⟩ := h
            cases he
            exact go _ hr ⟨v, hv, .refl _ _ _⟩
          · rename_i fr s1 hr
            rw [Option.map_eq_some_iff] at h
            obtain ⟨v, hv, he⟩ := h
            cases he
            exact go _ hr ⟨v, hv, .refl _ _ _⟩
          · rename_i v fr s1 hr
            cases h
            exact go _ hr (.refl _ _ _)
          · cases h
        · cases h
      · cases h
end Go.Proofs.YtknocbhocdenoaaGreatDoor
