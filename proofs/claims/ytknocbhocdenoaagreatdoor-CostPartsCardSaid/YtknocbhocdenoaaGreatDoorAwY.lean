/- Symbolic runs of the abstract machine: the tree of what comes of a body, its branches on conditions that are not known, what is to be shown for it; that it is sound. -/
import Derived.Test.YtknocbhocdenoaaGreatDoorAwS
namespace Go.Proofs.YtknocbhocdenoaaGreatDoor
open Go Go.RowKit

/-- What may come, by conditions. -/
inductive Br (α : Type) where
  | one (a : α)
  | ite (b : Bool) (x y : Br α)
/-- A tree. -/
inductive SX where
  | ret (v : AV) (st : St)
  | pan (v : AV) (st : St)
  | code (e : AExit) (fr : Fr) (st : St)
  | call (f : FuncId) (args : List AV) (st : St) (e : AEnd) (st' : St) (x : SX)
  | loop (c : Code) (fr : Fr) (st : St) (e : AExit) (fr' : Fr) (st' : St) (x : SX)
  | side (p : Prop) (x : SX)
  | both (x y : SX)
  | stuck (why : Nat)
/-- A tree's ends. -/
inductive Lf where
  | ret (v : AV) (st : St)
  | pan (v : AV) (st : St)
  | code (e : AExit) (fr : Fr) (st : St)
/-- A loop comes to this end. -/
structure LoopG (P : Program) (c : Code) (fr : Fr) (st : St) (e : AExit) (fr' : Fr) (st' : St) : Prop where
  run : ∀ K : AExit → Fr → St → Prop, (∀ v fr fr' st, K (.panic v) fr st → K (.panic v) fr' st) → K e fr' st' → WpA P (.loop c) K fr st
def SX.holds (P : Program) (Q : Lf → Prop) : SX → Prop
  | .ret v st => Q (.ret v st)
  | .pan v st => Q (.pan v st)
  | .code e fr st => Q (.code e fr st)
  | .call f args st e st' x => Good P f args st e st' ∧ x.holds P Q
  | .loop c fr st e fr' st' x => LoopG P c fr st e fr' st' ∧ x.holds P Q
  | .side p x => p ∧ (p → x.holds P Q)
  | .both x y => x.holds P Q ∧ y.holds P Q
  | .stuck _ => False
theorem holds_cond {P : Program} {Q : Lf → Prop} {b : Bool} {x y : SX} : (cond b x y).holds P Q ↔ (b = true → x.holds P Q) ∧ (b = false → y.holds P Q) := by
  cases b <;> simp
def Br.run {α : Type} (f : α → SX) : Br α → SX
  | .one a => f a
  | .ite b x y => cond b (x.run f) (y.run f)
theorem Br.run_holds {α : Type} {P : Program} {Q : Lf → Prop} {f : α → SX} : ∀ {b : Br α}, (b.run f).holds P Q → ∃ a, (f a).holds P Q
  | .one a, h => ⟨a, h⟩
  | .ite true x y, h => Br.run_holds (b := x) h
  | .ite false x y, h => Br.run_holds (b := y) h

structure SCfg where
  tr : Nat → Option Sch
  sig : FuncId → List AV → St → Option (Br (AEnd × St))
  typ : TypeId → Option (List AV → Nat → AV)
  mtyp : TypeId → Option (Option AV → AV)
  live : Nat → List Nat × List Nat
  unroll : Nat → Nat
  lsig : Nat → Fr → St → Option (Br (AExit × Fr × St))

section
variable (P : Program) (C : SCfg)

def dfX (o : Oper) (fr : Fr) (st : St) (k : Tv → Fr → St → SX) : SX := match opF P o fr st with | some (tv, fr', st') => k tv fr' st' | none => .stuck 1
def loadX (o : Oper) (t : TypeId) (c : Tv) (fr : Fr) (st : St) (k : Tv → Fr → St → SX) : SX :=
  match c with
  | .v (.rptr cs off) => match C.typ t with
    | some g => .side (ld P t cs off = some (g cs off)) (k (.v (g cs off)) fr st)
    | none => dfX P o fr st k
  | _ => dfX P o fr st k
def iaX (o : Oper) (t : TypeId) (x i : Tv) (fr : Fr) (st : St) (k : Tv → Fr → St → SX) : SX :=
  match x, i, elemOfF P t with
  | .v (.slice _ cells m), .v (.val (.int _ n)), some (none, sz) => cond (decide (0 ≤ n) && decide (n < m)) (k (.v (.rptr cells (n.toNat * sz))) fr st) (.stuck 2)
  | .v (.osl j off m _), .v (.val (.int _ n)), some (none, sz) => cond (decide (0 ≤ n) && decide (n < m)) (k (.v (.ptr j (off + n.toNat * sz))) fr st) (.stuck 2)
  | _, _, _ => dfX P o fr st k
def ixX (o : Oper) (t : TypeId) (x i : Tv) (fr : Fr) (st : St) (k : Tv → Fr → St → SX) : SX :=
  match x, i with
  | .v (.val (.string s)), .v (.val (.int _ n)) => cond (isStr P t && (decide (0 ≤ n) && decide (n < s.size))) (k (.v (.val (.int .u8 (bt s n.toNat)))) fr st) (.stuck 3)
  | _, _ => dfX P o fr st k
def slX (o : Oper) (t : TypeId) (x : Tv) (l h : Option (Option AV)) (fr : Fr) (st : St) (k : Tv → Fr → St → SX) : SX :=
  match x, l.bind optInt, h.bind optInt with
  | .v (.val (.string s)), some l, some h => cond (isStr P t && (decide (0 ≤ l.getD 0) && (decide (l.getD 0 ≤ h.getD s.size) && decide (h.getD s.size ≤ s.size)))) (k (.v (.val (.string (s.extract (l.getD 0).toNat (h.getD s.size).toNat)))) fr st) (.stuck 4)
  | .v (.slice _ cells n), some l, some h => match elemOfF P t with
    | some (none, sz) => .side (cells.length = n * sz) (cond (decide (0 ≤ l.getD 0) && (decide (l.getD 0 ≤ h.getD n) && decide (h.getD n ≤ n)))
        (k (.v (.slice .ro ((cells.drop ((l.getD 0).toNat * sz)).take (((h.getD n).toNat - (l.getD 0).toNat) * sz)) ((h.getD n).toNat - (l.getD 0).toNat))) fr st) (.stuck 4))
    | _ => .stuck 4
  | _, _, _ => dfX P o fr st k
def binX (o : Oper) (op : BinOp) (x y : Tv) (fr : Fr) (st : St) (k : Tv → Fr → St → SX) : SX :=
  match op, x, y with
  | .add, .v (.val (.string a)), .v (.val (.string b)) => cond (decide (a.size + b.size ≤ 9223372036854775807)) (k (.v (.val (.string (a ++ b)))) fr st) (.stuck 5)
  | _, _, _ => dfX P o fr st k
def luX (o : Oper) (t : TypeId) (m x : Tv) (ok : Bool) (fr : Fr) (st : St) (k : Tv → Fr → St → SX) : SX :=
  match m, x with
  | .v (.map i), .v (.val (.string s)) => match st.mem[i]? with
    | some (.map es) => match C.mtyp t with
      | some g => .side (lookupF P t (.map i) (.val (.string s)) ok st = some (bif ok then .tuple [g (mfind s es), .val (.bool (mfind s es).isSome)] else g (mfind s es)))
          (k (.v (bif ok then .tuple [g (mfind s es), .val (.bool (mfind s es).isSome)] else g (mfind s es))) fr st)
      | none => dfX P o fr st k
    | _ => dfX P o fr st k
  | _, _ => dfX P o fr st k
def msX (o : Oper) (t : TypeId) (x y : Tv) (fr : Fr) (st : St) (k : Tv → Fr → St → SX) : SX :=
  match x, y, makeI P t with
  | .v (.val (.int _ n)), .v (.val (.int _ m)), some (z, by_) => cond (decide (0 ≤ n) && (decide (n ≤ m) && (decide ((by_ : Int) * m ≤ 281474976710656) && decide (m ≤ 9223372036854775807))))
      (k (.v (.osl st.mem.length 0 n.toNat m.toNat)) fr { st with mem := st.mem ++ [.cells (repC z m.toNat)] }) (.stuck 6)
  | _, _, _ => dfX P o fr st k
def apX (o : Oper) (ts : List TypeId) (l : Option (List AV)) (fr : Fr) (st : St) (k : Tv → Fr → St → SX) : SX :=
  match ts, l with
  | [t, tx], some [.slice own cells n, .slice _ news m] => match appI P t tx with
    | some (sz, by_) => .side (cells.length = n * sz ∧ news.length = m * sz ∧ news.all AV.scalar = true ∧ (n + m) * by_ ≤ 140737488355328 ∧ n + m ≤ maxLen)
        (match own with
        | .nil => cond (m == 0) (k (.v (.slice .nil [] 0)) fr st) (k (.v (.slice (.row st.rows.length) news m)) fr { st with rows := st.rows ++ [some news.length] })
        | .row r => .side (0 < n ∧ st.rows[r]? = some (some cells.length)) (k (.v (.slice (.row st.rows.length) (cells ++ news) (n + m))) fr { st with rows := st.rows.set r none ++ [some (cells.length + news.length)] })
        | .ro => .stuck 7)
    | none => .stuck 7
  | _, _ => dfX P o fr st k
def pkX (o : Oper) (c a b : Tv) (fr : Fr) (st : St) (k : Tv → Fr → St → SX) : SX :=
  match c, a, b with
  | .v (.val (.bool c)), .v (.val (.bool a)), .v (.val (.bool b)) => k (.v (.val (.bool (bif c then a else b)))) fr st
  | .v (.val (.bool c)), _, _ => cond c (k a fr st) (k b fr st)
  | _, _, _ => dfX P o fr st k
/-- One operation. -/
def opX (o : Oper) (fr : Fr) (st : St) (k : Tv → Fr → St → SX) : SX :=
  match o.op with
  | .load t p => loadX P C o t (fr.ev p) fr st k
  | .pick c a b => pkX P o (fr.ev c) (fr.ev a) (fr.ev b) fr st k
  | .indexAddr t x i => iaX P o t (fr.ev x) (fr.ev i) fr st k
  | .index t x i => ixX P o t (fr.ev x) (fr.ev i) fr st k
  | .slice t x lo hi none => slX P o t (fr.ev x) (evO fr lo) (evO fr hi) fr st k
  | .binOp op _ x y _ => binX P o op (fr.ev x) (fr.ev y) fr st k
  | .lookup t m x ok => luX P C o t (fr.ev m) (fr.ev x) ok fr st k
  | .makeSlice t x y => msX P o t (fr.ev x) (fr.ev y) fr st k
  | .call { callee := .builtin .append, args := xs, argTypes := ts } => apX P o ts.toList (listEv fr xs) fr st k
  | _ => dfX P o fr st k
def symOp (o : Oper) (fr : Fr) (st : St) (k : Tv → Fr → St → SX) (kp : AV → Fr → St → SX) : SX :=
  match calleeF P fr o with
  | some (g, args) => match C.sig g args st with
    | some b => b.run fun p => .call g args st p.1 p.2 (match p.1 with | .ret v => k (.v v) fr p.2 | .panic v => kp v fr p.2)
    | none => .stuck (1000 + g)
  | none => match panicF fr o with
    | some v => kp v fr st
    | none => opX P C o fr st k
def setT (d : Nat) (v : Tv) : List (Nat × Tv) → List (Nat × Tv)
  | [] => []
  | (k, x) :: r => bif k == d then (k, v) :: r else (k, x) :: setT d v r
/-- It is known what a slot holds. -/
def Fr.known (fr : Fr) (d : Nat) (b : Bool) : Fr := { fr with tmps := setT d (.v (.val (.bool b))) fr.tmps }
def symG (ops : Array Oper) (o : Oper) (fr : Fr) (yes no : Fr → SX) : SX :=
  match o.guard with
  | none => yes fr
  | some (j, want) => match guardD ops j with
    | some d => match look fr.tmps d with
      | .v (.val (.bool b)) => bif want then cond b (yes (fr.known d true)) (no (fr.known d false)) else cond b (no (fr.known d true)) (yes (fr.known d false))
      | .v (.val (.tuple _)) => no fr
      | _ => .stuck 10
    | none => .stuck 11
def symOps (ops : Array Oper) (k : Fr → St → SX) (kp : AV → Fr → St → SX) : List Oper → Fr → St → SX
  | [], fr, st => k fr st
  | o :: rest, fr, st => cond (dstOk fr o) (symG ops o fr (fun fr => symOp P C o fr st (fun tv fr' st' => symOps ops k kp rest (fr'.put o.dst tv) st') kp) (fun fr => symOps ops k kp rest (fr.put o.dst (.v (.val undef))) st)) (.stuck 12)
def symTr (ops : Array Oper) (ls L : List Nat) (k : Fr → St → SX) (kp : AV → Fr → St → SX) : Tr → Fr → St → SX
  | .done, fr, st => k fr st
  | .q i ob t, fr, st => match ops[i]? with
    | some o => cond (dstOk fr o) (symG ops o fr (fun fr => cond (ldOk ops L ob o fr) (opX P C o fr st fun tv fr' st' => symTr ops ls L k kp t (fr'.put o.dst tv) st') (.stuck 13)) (fun fr => symTr ops ls L k kp t (fr.put o.dst (.v (.val undef))) st)) (.stuck 12)
    | none => .stuck 14
  | .w i t, fr, st => match ops[i]? with
    | some o => cond (dstOk fr o) (symG ops o fr (fun fr => cond (stOk ops ls L i o fr) (symOp P C o fr st (fun tv fr' st' => symTr ops ls L k kp t (fr'.put o.dst tv) st') kp) (.stuck 15)) (fun fr => symTr ops ls L k kp t (fr.put o.dst (.v (.val undef))) st)) (.stuck 12)
    | none => .stuck 14
  | .b i t j u, fr, st => .both
    (match ops[i]? with
    | some o => cond (dstOk fr o) (symG ops o fr (fun fr => cond (stOk ops ls L i o fr) (symOp P C o fr st (fun tv fr' st' => symTr ops ls L k kp t (fr'.put o.dst tv) st') kp) (.stuck 15)) (fun fr => symTr ops ls L k kp t (fr.put o.dst (.v (.val undef))) st)) (.stuck 12)
    | none => .stuck 14)
    (match ops[j]? with
    | some o => cond (dstOk fr o) (symG ops o fr (fun fr => cond (stOk ops ls L j o fr) (symOp P C o fr st (fun tv fr' st' => symTr ops ls L k kp u (fr'.put o.dst tv) st') kp) (.stuck 15)) (fun fr => symTr ops ls L k kp u (fr.put o.dst (.v (.val undef))) st)) (.stuck 12)
    | none => .stuck 14)
def Fr.keep (fr : Fr) (l : List Nat × List Nat) : Fr := { fr with tmps := l.1.map fun t => (t, look fr.tmps t), boxes := l.2.filterMap fun b => (lookB fr.boxes b).map fun cs => (b, cs) }
def symLoop (F : Fr → St → (AExit → Fr → St → SX) → SX) (k : AExit → Fr → St → SX) : Nat → Fr → St → SX
  | 0, _, _ => .stuck 16
  | n + 1, fr, st => F fr st fun e fr' st' => match e with | .normal => symLoop F k n fr' st' | e => k e fr' st'
def regId : Code → Nat
  | .region id _ _ => id
  | .seq x _ => regId x
  | .block _ c | .loop c | .scope c => regId c
  | .cond _ x _ => regId x
  | _ => 0
def symC : Code → Fr → St → (AExit → Fr → St → SX) → SX
  | .skip, fr, st, k => k .normal fr st
  | .ret, fr, st, k => k .ret fr st
  | .label _, fr, st, k => k .normal fr st
  | .scope c, fr, st, k => symC c fr st k
  | .exit i, fr, st, k => k (.exit i) fr st
  | .seq x y, fr, st, k => symC x fr st fun e fr st => match e with | .normal => symC y fr st k | e => k e fr st
  | .cond c x y, fr, st, k => match fr.ev c with
    | .v (.val (.bool b)) => match c with
      | .tmp d => cond b (symC x (fr.known d true) st k) (symC y (fr.known d false) st k)
      | _ => cond b (symC x fr st k) (symC y fr st k)
    | _ => .stuck 17
  | .block i c, fr, st, k => symC c fr st fun e fr st => match e with | .exit j => bif j == i then k .normal fr st else k (.exit j) fr st | e => k e fr st
  | .loop c, fr, st, k => match C.unroll (regId c) with
    | 0 => match C.lsig (regId c) (fr.keep (C.live (regId c))) st with
      | some b => b.run fun p => .loop c (fr.keep (C.live (regId c))) st p.1 p.2.1 p.2.2 (k p.1 p.2.1 p.2.2)
      | none => .stuck (2000 + regId c)
    | n + 1 => symLoop (fun fr st k => symC c fr st k) k (n + 1) fr st
  | .region _ ops false, fr, st, k => symOps P C ops (fun fr st => k .normal fr st) (fun v fr st => k (.panic v) fr st) ops.toList fr st
  | .region id ops true, fr, st, k => match C.tr id with
    | some s => symTr P C ops s.ls (regL fr) (fun fr st => k .normal fr st) (fun v fr st => k (.panic v) fr st) s.t fr st
    | none => .stuck 18
  | _, _, _, _ => .stuck 19
def kF (fn : Func) (e : AExit) (fr : Fr) (st : St) : SX :=
  match e with
  | .normal | .ret => match resF P fn fr st with | some v => .ret v st | none => .stuck 20
  | .panic v => .pan v st
  | .exit _ => .stuck 21
/-- A function's tree. -/
def symF (fn : Func) (objs froz : List Nat) (args : List AV) (st : St) : SX :=
  match fn.body with
  | some c => symC P C c (fr0 fn args objs froz) st (kF P fn)
  | none => .stuck 22
end

/-! ### It is sound -/
section
variable {P : Program} {C : SCfg} {Q : Lf → Prop}

theorem dfX_ok {o : Oper} {fr : Fr} {st : St} {k : Tv → Fr → St → SX} (h : (dfX P o fr st k).holds P Q) : ∃ tv fr' st', opF P o fr st = some (tv, fr', st') ∧ (k tv fr' st').holds P Q := by
  unfold dfX at h
  split at h
  · rename_i tv fr' st' ho; exact ⟨tv, fr', st', ho, h⟩
  · exact h.elim
theorem and_dec {a b : Bool} : (a && b) = true ↔ a = true ∧ b = true := by simp
theorem opX_ok {o : Oper} {fr : Fr} {st : St} {k : Tv → Fr → St → SX} (h : (opX P C o fr st k).holds P Q) : ∃ tv fr' st', opF P o fr st = some (tv, fr', st') ∧ (k tv fr' st').holds P Q := by
  unfold opX at h
  split at h
  · rename_i t p ho
    unfold loadX at h
    split at h
    · rename_i cs off hp
      split at h
      · rename_i g hg
        refine ⟨_, _, _, ?_, h.2 h.1⟩
        unfold opF
        rw [ho]
        simp only [hp, loadF, h.1]
      · exact dfX_ok h
    · exact dfX_ok h
  · rename_i c a b ho
    unfold pkX at h
    split at h
    · rename_i c' a' b' hc ha hb
      refine ⟨_, _, _, ?_, h⟩
      unfold opF
      rw [ho]
      simp only [hc, ha, hb]
      cases c' <;> rfl
    · rename_i c' hc hne
      have hp : pickT c' (fr.ev a) (fr.ev b) = cond c' (fr.ev a) (fr.ev b) := by
        unfold pickT
        split
        · rename_i x y h1 h2; exact (hne _ _ h1 h2).elim
        · rfl
      cases hb : c' with
      | true =>
        rw [hb] at h hp
        refine ⟨_, _, _, ?_, h⟩
        unfold opF
        rw [ho]
        simp only [hc, hb, hp, cond_true]
      | false =>
        rw [hb] at h hp
        refine ⟨_, _, _, ?_, h⟩
        unfold opF
        rw [ho]
        simp only [hc, hb, hp, cond_false]
    · exact dfX_ok h
  · rename_i t x i ho
    unfold iaX at h
    split at h
    · rename_i own cells m kd n sz hx hi he
      cases hb : (decide (0 ≤ n) && decide (n < m)) with
      | false => rw [hb] at h; exact h.elim
      | true =>
        rw [hb] at h
        refine ⟨_, _, _, ?_, h⟩
        simp only [Bool.and_eq_true, decide_eq_true_eq] at hb
        unfold opF
        rw [ho]
        simp only [indexAddrF, hx, hi, he, if_pos hb]
    · rename_i j off m c kd n sz hx hi he
      cases hb : (decide (0 ≤ n) && decide (n < m)) with
      | false => rw [hb] at h; exact h.elim
      | true =>
        rw [hb] at h
        refine ⟨_, _, _, ?_, h⟩
        simp only [Bool.and_eq_true, decide_eq_true_eq] at hb
        unfold opF
        rw [ho]
        simp only [indexAddrF, hx, hi, he, if_pos hb]
    · exact dfX_ok h
  · rename_i t x i ho
    unfold ixX at h
    split at h
    · rename_i s kd n hx hi
      cases hb : (isStr P t && (decide (0 ≤ n) && decide (n < s.size))) with
      | false => rw [hb] at h; exact h.elim
      | true =>
        rw [hb] at h
        refine ⟨_, _, _, ?_, h⟩
        simp only [Bool.and_eq_true, decide_eq_true_eq] at hb
        unfold opF
        rw [ho]
        simp only [indexF, hx, hi, if_pos hb]
    · exact dfX_ok h
  · rename_i t x lo hi ho
    unfold slX at h
    split at h
    · rename_i s l h' hx hl hh
      obtain ⟨l0, hl0, hl1⟩ := Option.bind_eq_some_iff.1 hl
      obtain ⟨h0, hh0, hh1⟩ := Option.bind_eq_some_iff.1 hh
      cases hb : (isStr P t && (decide (0 ≤ l.getD 0) && (decide (l.getD 0 ≤ h'.getD s.size) && decide (h'.getD s.size ≤ s.size)))) with
      | false => rw [hb] at h; exact h.elim
      | true =>
        rw [hb] at h
        refine ⟨_, _, _, ?_, h⟩
        simp only [Bool.and_eq_true, decide_eq_true_eq] at hb
        unfold opF
        rw [ho]
        simp only [hx, hl0, hh0, sliceF, hl1, hh1, if_pos hb]
    · rename_i own cells n l h' hx hl hh
      obtain ⟨l0, hl0, hl1⟩ := Option.bind_eq_some_iff.1 hl
      obtain ⟨h0, hh0, hh1⟩ := Option.bind_eq_some_iff.1 hh
      split at h
      · rename_i sz he
        obtain ⟨hc, h⟩ := h
        have h := h hc
        cases hb : (decide (0 ≤ l.getD 0) && (decide (l.getD 0 ≤ h'.getD n) && decide (h'.getD n ≤ n))) with
        | false => rw [hb] at h; exact h.elim
        | true =>
          rw [hb] at h
          refine ⟨_, _, _, ?_, h⟩
          simp only [Bool.and_eq_true, decide_eq_true_eq] at hb
          unfold opF
          rw [ho]
          simp only [hx, hl0, hh0, sliceF, hl1, hh1, he, if_pos (And.intro hc hb)]
      · exact h.elim
    · exact dfX_ok h
  · rename_i op t x y ty ho
    unfold binX at h
    split at h
    · rename_i a b hx hy
      cases hb : (decide (a.size + b.size ≤ 9223372036854775807)) with
      | false => rw [hb] at h; exact h.elim
      | true =>
        rw [hb] at h
        refine ⟨_, _, _, ?_, h⟩
        have hb' := of_decide_eq_true hb
        unfold opF
        rw [ho]
        simp only [hx, hy, binF, binStr, if_pos hb', Option.map_some]
    · exact dfX_ok h
  · rename_i t m x ok ho
    unfold luX at h
    split at h
    · rename_i i s hm hx
      split at h
      · rename_i es he
        split at h
        · rename_i g hg
          refine ⟨_, _, _, ?_, h.2 h.1⟩
          unfold opF
          rw [ho]
          simp only [hm, hx, h.1]
        · exact dfX_ok h
      · exact dfX_ok h
    · exact dfX_ok h
  · rename_i t x y ho
    unfold msX at h
    split at h
    · rename_i k1 n k2 m z by_ hx hy hz
      cases hb : (decide (0 ≤ n) && (decide (n ≤ m) && (decide ((by_ : Int) * m ≤ 281474976710656) && decide (m ≤ 9223372036854775807)))) with
      | false => rw [hb] at h; exact h.elim
      | true =>
        rw [hb] at h
        refine ⟨_, _, _, ?_, h⟩
        simp only [Bool.and_eq_true, decide_eq_true_eq] at hb
        unfold opF
        rw [ho]
        simp only [hx, hy, makeF, hz, if_pos hb]
    · exact dfX_ok h
  · rename_i xs ts ho
    unfold apX at h
    split at h
    · rename_i t tx own cells n own' news m hts hl
      split at h
      · rename_i sz by_ ha
        obtain ⟨hp, h⟩ := h
        have h := h hp
        have key : ∀ r, appendF P t tx (.slice own cells n) (.slice own' news m) st = some r → opF P o fr st = some (.v r.1, fr, r.2) := by
          intro r hr
          unfold opF
          rw [ho]
          simp only [hl, builtinF, hts, hr]
        split at h
        · cases hb : (m == 0) with
          | true =>
            rw [hb] at h
            refine ⟨_, _, _, key (_, _) ?_, h⟩
            simp only [appendF, ha, if_pos hp, if_pos (show m = 0 by simpa using hb)]
          | false =>
            rw [hb] at h
            refine ⟨_, _, _, key (_, _) ?_, h⟩
            simp only [appendF, ha, if_pos hp, if_neg (show ¬ m = 0 by simpa using hb)]
        · refine ⟨_, _, _, key (_, _) ?_, h.2 h.1⟩
          simp only [appendF, ha, if_pos hp, if_pos h.1]
        · exact h.elim
      · exact h.elim
    · exact dfX_ok h
  · exact dfX_ok h

theorem symOp_ok {o : Oper} {fr : Fr} {st : St} {k : Tv → Fr → St → SX} {kp : AV → Fr → St → SX} (h : (symOp P C o fr st k kp).holds P Q) : opW P o fr st (fun tv fr' st' => (k tv fr' st').holds P Q) (fun v fr' st' => (kp v fr' st').holds P Q) := by
  unfold symOp at h
  unfold opW
  split at h
  · rename_i g args hc
    rw [hc]
    split at h
    · rename_i b hb
      obtain ⟨⟨e, st'⟩, hg, hx⟩ := Br.run_holds h
      refine ⟨e, st', hg, ?_⟩
      cases e <;> exact hx
    · exact h.elim
  · rename_i hc
    rw [hc]
    split at h
    · rename_i v hv
      simp only [hv]
      exact h
    · rename_i hv
      simp only [hv]
      obtain ⟨tv, fr', st', ho, hk⟩ := opX_ok h
      rw [ho]
      exact hk
theorem setT_same {d : Nat} {v : Tv} : ∀ {l : List (Nat × Tv)}, look l d = v → setT d v l = l
  | [], _ => rfl
  | (k, x) :: r, h => by
    rw [look_cons] at h
    unfold setT
    by_cases hk : k = d
    · rw [if_pos hk] at h; rw [beq_iff_eq.2 hk, cond_true, h]
    · rw [if_neg hk] at h; rw [beq_eq_false_iff_ne.2 hk, cond_false, setT_same h]
theorem known_eq {fr : Fr} {d : Nat} {b : Bool} (h : look fr.tmps d = .v (.val (.bool b))) : fr.known d b = fr := by
  unfold Fr.known; rw [setT_same h]
theorem symG_ok {ops : Array Oper} {o : Oper} {fr : Fr} {yes no : Fr → SX} (h : (symG ops o fr yes no).holds P Q) : guardW ops o fr ((yes fr).holds P Q) ((no fr).holds P Q) := by
  unfold symG at h
  unfold guardW
  split at h
  · rename_i hg; rw [hg]; exact h
  · rename_i j want hg
    rw [hg]
    split at h
    · rename_i d hd
      simp only [hd]
      split at h
      · rename_i b hb
        simp only [hb]
        cases b <;> rw [known_eq hb] at h <;> cases want <;> simp_all
      · rename_i vs hb
        simp only [hb]
        exact h
      · exact h.elim
    · exact h.elim
theorem guardW_mono {ops : Array Oper} {o : Oper} {fr : Fr} {yes no yes' no' : Prop} (h : guardW ops o fr yes no) (h1 : yes → yes') (h2 : no → no') : guardW ops o fr yes' no' := by
  unfold guardW at h ⊢
  split at h
  · exact h1 h
  · split at h
    · split at h
      · exact ⟨fun e => h1 (h.1 e), fun e => h2 (h.2 e)⟩
      · exact h2 h
      · exact h.elim
    · exact h.elim
theorem cond_true_of {b : Bool} {x : SX} {n : Nat} (h : (cond b x (.stuck n)).holds P Q) : b = true ∧ x.holds P Q := by
  cases b with
  | true => exact ⟨rfl, h⟩
  | false => exact h.elim

theorem opW_mono {o : Oper} {fr : Fr} {st : St} {K K' : Tv → Fr → St → Prop} {KP KP' : AV → Fr → St → Prop} (h : opW P o fr st K KP) (h1 : ∀ tv fr st, K tv fr st → K' tv fr st) (h2 : ∀ v fr st, KP v fr st → KP' v fr st) : opW P o fr st K' KP' := by
  unfold opW at h ⊢
  split at h
  · obtain ⟨e, st', hg, hx⟩ := h
    refine ⟨e, st', hg, ?_⟩
    cases e with
    | ret v => exact h1 _ _ _ hx
    | panic v => exact h2 _ _ _ hx
  · split at h
    · exact h2 _ _ _ h
    · split at h
      · exact h1 _ _ _ h
      · exact h.elim
theorem symOps_ok {ops : Array Oper} {k : Fr → St → SX} {kp : AV → Fr → St → SX} {K : Fr → St → Prop} {KP : AV → Fr → St → Prop} (hk : ∀ fr st, (k fr st).holds P Q → K fr st) (hp : ∀ v fr st, (kp v fr st).holds P Q → KP v fr st) :
    ∀ (l : List Oper) (fr : Fr) (st : St), (symOps P C ops k kp l fr st).holds P Q → regW P ops K KP l fr st
  | [], fr, st, h => hk fr st h
  | o :: rest, fr, st, h => by
    unfold symOps at h
    obtain ⟨hd, h⟩ := cond_true_of h
    exact regW_guard hd (guardW_mono (symG_ok h) (fun h => opW_mono (symOp_ok h) (fun tv fr' st' h => symOps_ok hk hp rest _ _ h) hp) (fun h => symOps_ok hk hp rest _ _ h))
theorem symTr_ok {ops : Array Oper} {ls L : List Nat} {k : Fr → St → SX} {kp : AV → Fr → St → SX} {K : Fr → St → Prop} {KP : AV → Fr → St → Prop} (hk : ∀ fr st, (k fr st).holds P Q → K fr st) (hp : ∀ v fr st, (kp v fr st).holds P Q → KP v fr st) :
    ∀ (t : Tr) (fr : Fr) (st : St), (symTr P C ops ls L k kp t fr st).holds P Q → regT P ops ls L K KP t fr st
  | .done, fr, st, h => hk fr st h
  | .q i ob t, fr, st, h => by
    unfold symTr at h
    unfold regT
    split at h
    · rename_i o ho
      simp only [ho]
      obtain ⟨hd, h⟩ := cond_true_of h
      refine ⟨hd, guardW_mono (symG_ok h) (fun h => ?_) (fun h => symTr_ok hk hp t _ _ h)⟩
      obtain ⟨hl, h⟩ := cond_true_of h
      obtain ⟨tv, fr', st', hop, h⟩ := opX_ok h
      rw [hop]
      exact ⟨hl, symTr_ok hk hp t _ _ h⟩
    · exact h.elim
  | .w i t, fr, st, h => by
    unfold symTr at h
    unfold regT
    split at h
    · rename_i o ho
      simp only [ho]
      obtain ⟨hd, h⟩ := cond_true_of h
      refine ⟨hd, guardW_mono (symG_ok h) (fun h => ?_) (fun h => symTr_ok hk hp t _ _ h)⟩
      obtain ⟨hl, h⟩ := cond_true_of h
      exact ⟨hl, opW_mono (symOp_ok h) (fun tv fr' st' h => symTr_ok hk hp t _ _ h) hp⟩
    · exact h.elim
  | .b i t j u, fr, st, h => by
    unfold symTr at h
    unfold regT
    obtain ⟨h1, h2⟩ := h
    refine ⟨?_, ?_⟩
    · split at h1
      · rename_i o ho
        simp only [ho]
        obtain ⟨hd, h⟩ := cond_true_of h1
        refine ⟨hd, guardW_mono (symG_ok h) (fun h => ?_) (fun h => symTr_ok hk hp t _ _ h)⟩
        obtain ⟨hl, h⟩ := cond_true_of h
        exact ⟨hl, opW_mono (symOp_ok h) (fun tv fr' st' h => symTr_ok hk hp t _ _ h) hp⟩
      · exact h1.elim
    · split at h2
      · rename_i o ho
        simp only [ho]
        obtain ⟨hd, h⟩ := cond_true_of h2
        refine ⟨hd, guardW_mono (symG_ok h) (fun h => ?_) (fun h => symTr_ok hk hp u _ _ h)⟩
        obtain ⟨hl, h⟩ := cond_true_of h
        exact ⟨hl, opW_mono (symOp_ok h) (fun tv fr' st' h => symTr_ok hk hp u _ _ h) hp⟩
      · exact h2.elim

theorem look_keep (ts : List Nat) (l : List (Nat × Tv)) (t : Nat) : look (ts.map fun t => (t, look l t)) t = look l t ∨ look (ts.map fun t => (t, look l t)) t = .u := by
  induction ts with
  | nil => exact .inr rfl
  | cons s ts ih =>
    simp only [List.map_cons, look_cons]
    split
    · rename_i h; subst h; exact .inl rfl
    · exact ih
theorem lookB_keep (bs : List Nat) (l : List (Nat × List AV)) (x : Nat) {cs : List AV} (h : lookB (bs.filterMap fun b => (lookB l b).map fun cs => (b, cs)) x = some cs) : lookB l x = some cs := by
  induction bs with
  | nil => cases h
  | cons b bs ih =>
    rw [List.filterMap_cons] at h
    split at h
    · exact ih h
    · rename_i p hp
      cases hb : lookB l b with
      | none => rw [hb] at hp; cases hp
      | some ds =>
        rw [hb] at hp
        cases hp
        rw [lookB_cons] at h
        split at h
        · rename_i e; cases h; rw [← e]; exact hb
        · exact ih h
theorem frLe_keep (fr : Fr) (l : List Nat × List Nat) : FrLe fr (fr.keep l) := fun B S β a h =>
  ⟨h.size, fun t => by
    rcases look_keep l.1 fr.tmps t with h1 | h1
    · show TRel β S (look (l.1.map fun t => (t, look fr.tmps t)) t) _
      rw [h1]; exact h.tmp t
    · show TRel β S (look (l.1.map fun t => (t, look fr.tmps t)) t) _
      rw [h1]; trivial,
   fun x cs hx => h.box x cs (lookB_keep _ _ _ hx), fun x y cs ds hx hy he => h.inj x y cs ds (lookB_keep _ _ _ hx) (lookB_keep _ _ _ hy) he, h.defers⟩
/-- K of a frame of which less is known. -/
def WideA (K : AExit → Fr → St → Prop) (e : AExit) (fr : Fr) (st : St) : Prop := ∃ fr', FrLe fr fr' ∧ K e fr' st
theorem WpA.wideA {c : Code} {K : AExit → Fr → St → Prop} {fr : Fr} {st : St} (h : WpA P c (WideA K) fr st) : WpA P c K fr st :=
  fun S0 S β a hi => Go.Code.wp_mono (fun e a w ⟨ae, S', β', fr', st', h1, h2, h3, h4⟩ => by
    obtain ⟨fr2, h5, h6⟩ := h4
    exact ⟨ae, S', β', fr2, st', h1, h2, ⟨h3.ext, h3.st, h5 _ _ _ _ h3.fr⟩, h6⟩) (h S0 S β a hi)

theorem symLoop_ok {c : Code} {K : AExit → Fr → St → Prop} (hKP : ∀ v fr fr' st, K (.panic v) fr st → K (.panic v) fr' st) {F : Fr → St → (AExit → Fr → St → SX) → SX}
    (hF : ∀ (K : AExit → Fr → St → Prop), (∀ v fr fr' st, K (.panic v) fr st → K (.panic v) fr' st) → ∀ fr st k, (∀ e fr st, (k e fr st).holds P Q → K e fr st) → (F fr st k).holds P Q → WpA P c K fr st)
    {k : AExit → Fr → St → SX} (hk : ∀ e fr st, (k e fr st).holds P Q → K e fr st) : ∀ (n : Nat) (fr : Fr) (st : St), (symLoop F k n fr st).holds P Q → LoopA P c K n fr st
  | 0, fr, st, h => h.elim
  | n + 1, fr, st, h => by
    refine hF (fun | .normal => LoopA P c K n | e => K e) hKP fr st _ (fun e fr' st' h => ?_) h
    cases e with
    | normal => exact symLoop_ok hKP hF hk n _ _ h
    | _ => exact hk _ _ _ h

theorem symC_ok (hm : P.follows .mixedOrders = true) : ∀ (c : Code) (_ : codeOk C.tr c = true) (K : AExit → Fr → St → Prop) (_ : ∀ v fr fr' st, K (.panic v) fr st → K (.panic v) fr' st) (fr : Fr) (st : St) (k : AExit → Fr → St → SX),
    (∀ e fr st, (k e fr st).holds P Q → K e fr st) → (symC P C c fr st k).holds P Q → WpA P c K fr st
  | .skip, _, K, _, fr, st, k, hk, h => wpA_skip (hk _ _ _ h)
  | .ret, _, K, _, fr, st, k, hk, h => wpA_ret (hk _ _ _ h)
  | .label l, _, K, _, fr, st, k, hk, h => wpA_label (hk _ _ _ h)
  | .scope c, hc, K, hKP, fr, st, k, hk, h => wpA_scope (symC_ok hm c hc K hKP fr st k hk h)
  | .exit i, _, K, _, fr, st, k, hk, h => wpA_exit (hk _ _ _ h)
  | .seq x y, hc, K, hKP, fr, st, k, hk, h => by
    simp only [codeOk, Bool.and_eq_true] at hc
    refine wpA_seq (symC_ok hm x hc.1 (seqK P y K) hKP fr st _ (fun e fr st h => ?_) h)
    cases e with
    | normal => exact symC_ok hm y hc.2 K hKP fr st k hk h
    | _ => exact hk _ _ _ h
  | .cond c x y, hc, K, hKP, fr, st, k, hk, h => by
    simp only [codeOk, Bool.and_eq_true] at hc
    unfold symC at h
    split at h
    · rename_i b hb
      have key : (cond b (symC P C x fr st k) (symC P C y fr st k)).holds P Q := by
        split at h
        · rename_i d
          have hb' : look fr.tmps d = .v (.val (.bool b)) := hb
          cases b with
          | true => rw [known_eq hb'] at h; exact h
          | false => rw [known_eq hb'] at h; exact h
        · exact h
      exact wpA_cond hb (fun e => symC_ok hm x hc.1 K hKP fr st k hk (by rw [e] at key; exact key)) (fun e => symC_ok hm y hc.2 K hKP fr st k hk (by rw [e] at key; exact key))
    · exact h.elim
  | .block i c, hc, K, hKP, fr, st, k, hk, h => by
    simp only [codeOk] at hc
    refine wpA_block (symC_ok hm c hc (blockK i K) hKP fr st _ (fun e fr st h => ?_) h)
    cases e with
    | exit j =>
      simp only [blockK]
      simp only at h
      cases hj : (j == i) with
      | true => rw [hj] at h; rw [if_pos (by simpa using hj)]; exact hk _ _ _ h
      | false => rw [hj] at h; rw [if_neg (by simpa using hj)]; exact hk _ _ _ h
    | _ => exact hk _ _ _ h
  | .loop c, hc, K, hKP, fr, st, k, hk, h => by
    simp only [codeOk] at hc
    unfold symC at h
    split at h
    · split at h
      · rename_i b hb
        obtain ⟨⟨e, fr', st'⟩, hl, hx⟩ := Br.run_holds h
        exact (hl.run K hKP (hk _ _ _ hx)).less (frLe_keep fr _)
      · exact h.elim
    · rename_i n hn
      exact wpA_loop (n + 1) (symLoop_ok hKP (fun K hKP fr st k hk h => symC_ok hm c hc K hKP fr st k hk h) hk (n + 1) fr st h)
  | .region id ops false, _, K, _, fr, st, k, hk, h => wpA_region (symOps_ok (fun fr st h => hk _ _ _ h) (fun v fr st h => hk _ _ _ h) ops.toList fr st h)
  | .region id ops true, hc, K, hKP, fr, st, k, hk, h => by
    unfold symC at h
    split at h
    · rename_i s hs
      simp only [codeOk, hs] at hc
      exact wpA_drawn hm s _ hc (fun v fr st h => hKP v fr _ st h) (symTr_ok (fun fr st h => ⟨fr, .refl fr, hk _ _ _ h⟩) (fun v fr st h => hk _ _ _ h) s.t fr st h)
    · exact h.elim

/-! ### Loops -/
def findLoop (id : Nat) : Code → Option Code
  | .loop c => if regId c == id then some c else findLoop id c
  | .seq x y => match findLoop id x with | some c => some c | none => findLoop id y
  | .cond _ x y => match findLoop id x with | some c => some c | none => findLoop id y
  | .block _ c => findLoop id c
  | .scope c => findLoop id c
  | _ => none
/-- The loop whose first region has that number. -/
def loopAt (fn : Func) (id : Nat) : Code := match fn.body with | some c => (match findLoop id c with | some c => c | none => .skip) | none => .skip
theorem findLoop_ok {T : Nat → Option Sch} {id : Nat} : ∀ {c d : Code}, findLoop id c = some d → codeOk T c = true → codeOk T d = true
  | .loop c, d, h, hc => by
    simp only [codeOk] at hc
    unfold findLoop at h
    split at h
    · cases h; exact hc
    · exact findLoop_ok h hc
  | .seq x y, d, h, hc => by
    simp only [codeOk, Bool.and_eq_true] at hc
    unfold findLoop at h
    split at h
    · rename_i e he; cases h; exact findLoop_ok he hc.1
    · exact findLoop_ok h hc.2
  | .cond _ x y, d, h, hc => by
    simp only [codeOk, Bool.and_eq_true] at hc
    unfold findLoop at h
    split at h
    · rename_i e he; cases h; exact findLoop_ok he hc.1
    · exact findLoop_ok h hc.2
  | .block _ c, d, h, hc => by
    simp only [codeOk] at hc
    unfold findLoop at h
    exact findLoop_ok h hc
  | .scope c, d, h, hc => by
    simp only [codeOk] at hc
    unfold findLoop at h
    exact findLoop_ok h hc
  | .region _ _ _, d, h, hc => by cases h
  | .skip, d, h, hc => by cases h
  | .ret, d, h, hc => by cases h
  | .label _, d, h, hc => by cases h
  | .exit _, d, h, hc => by cases h
  | .goto _, d, h, hc => by cases h
  | .refuse _, d, h, hc => by cases h
  | .rangeFunc .., d, h, hc => by cases h
theorem loopAt_ok {D : Cfg} {f : FuncId} {fn : Func} (hok : funcOk D f fn = true) (id : Nat) : codeOk (D.tr f) (loopAt fn id) = true := by
  unfold funcOk at hok
  rw [Bool.and_eq_true] at hok
  unfold loopAt
  split
  · rename_i c hc
    rw [hc] at hok
    split
    · rename_i d hd; exact findLoop_ok hd hok.2
    · rfl
  · rfl
/-- The end of a round. -/
def k0 (live out : List Nat × List Nat) (e : AExit) (fr : Fr) (st : St) : SX := .code e (fr.keep (match e with | .normal => live | _ => out)) st
def QL (P : Program) (c : Code) (K : AExit → Fr → St → Prop) (n : Nat) : Lf → Prop
  | .code .normal fr st => LoopA P c K n fr st
  | .code e fr st => K e fr st
  | _ => False
theorem loop_step (hm : P.follows .mixedOrders = true) {c : Code} (hc : codeOk C.tr c = true) {K : AExit → Fr → St → Prop} (hKP : ∀ v fr fr' st, K (.panic v) fr st → K (.panic v) fr' st) {live out : List Nat × List Nat} {n : Nat} {fr : Fr} {st : St}
    (h : (symC P C c fr st (k0 live out)).holds P (QL P c (WideA K) n)) : LoopA P c (WideA K) (n + 1) fr st := by
  have hKP' : ∀ v fr fr' st, WideA K (.panic v) fr st → WideA K (.panic v) fr' st := fun v fr fr' st ⟨f2, _, h⟩ => ⟨fr', .refl _, hKP _ _ _ _ h⟩
  refine WpA.wideA (symC_ok hm c hc _ ?_ fr st (k0 live out) (fun e fr st h => ?_) h)
  · rintro v fr fr' st ⟨f2, _, h⟩
    exact ⟨fr', .refl _, hKP' _ _ _ _ h⟩
  · refine ⟨fr.keep (match e with | .normal => live | _ => out), frLe_keep _ _, ?_⟩
    cases e <;> exact h
theorem loopG_of {c : Code} {fr fr' : Fr} {st st' : St} {e : AExit} (n : Nat) (h : ∀ K : AExit → Fr → St → Prop, (∀ v fr fr' st, K (.panic v) fr st → K (.panic v) fr' st) → WideA K e fr' st' → LoopA P c (WideA K) n fr st) : LoopG P c fr st e fr' st' :=
  ⟨fun K hKP hK => WpA.wideA (wpA_loop n (h K hKP ⟨fr', .refl _, hK⟩))⟩
/-- What a tree's end is to a contract. -/
def QF (st st' : St) (e : AEnd) : Lf → Prop
  | .ret v st1 => Lv st st' e (.ret v) st1
  | .pan v st1 => Lv st st' e (.panic v) st1
  | .code _ _ _ => False
theorem good_sym (hm : P.follows .mixedOrders = true) {f : FuncId} {fn : Func} (hf : P.funcs[f]? = some fn) {D : Cfg} (hok : funcOk D f fn = true) (hb : fn.body.isSome = true) (htr : C.tr = D.tr f) {objs froz : List Nat} {args : List AV} {st st' : St} {e : AEnd}
    (h : (symF P C fn objs froz args st).holds P (QF st st' e)) : Good P f args st e st' := by
  obtain ⟨c, hc⟩ := Option.isSome_iff_exists.1 hb
  unfold funcOk at hok
  rw [Bool.and_eq_true, hc] at hok
  refine good_of hf hc (by simpa [nameOk] using hok.1) objs froz (symC_ok hm c (by rw [htr]; exact hok.2) _ (fun _ _ _ _ h => h) _ _ (kF P fn) (fun e1 fr st1 h => ?_) (by unfold symF at h; rw [hc] at h; exact h))
  unfold kF at h
  cases e1 with
  | normal =>
    simp only at h
    split at h
    · rename_i v hv; exact ⟨v, hv, h⟩
    · exact h.elim
  | ret =>
    simp only at h
    split at h
    · rename_i v hv; exact ⟨v, hv, h⟩
    · exact h.elim
  | panic v => exact h
  | exit i => exact h.elim
end
end Go.Proofs.YtknocbhocdenoaaGreatDoor
