/- Laws for stepping through a region: one for each make of operation. -/
import Derived.Test.YtknocbhocdenoaaGreatDoorAwR
namespace Go.Proofs.YtknocbhocdenoaaGreatDoor
open Go Go.RowKit

section
variable {P : Program} {ops : Array Oper} {K : Fr → St → Prop} {KP : AV → Fr → St → Prop} {rest : List Oper} {fr : Fr} {st : St}
variable {dst : Option Nat} {op : Op} {ty : TypeId} {pos : String} {after : Array Edge}

/-- One operation and the rest behind it. -/
def runW (P : Program) (ops : Array Oper) (K : Fr → St → Prop) (KP : AV → Fr → St → Prop) (rest : List Oper) (o : Oper) (fr : Fr) (st : St) : Prop := opW P o fr st (fun tv fr' st' => regW P ops K KP rest (fr'.put o.dst tv) st') KP
/-- The rest, behind what an operation gave. -/
def goW (P : Program) (ops : Array Oper) (K : Fr → St → Prop) (KP : AV → Fr → St → Prop) (rest : List Oper) (dst : Option Nat) (r : Option (Tv × Fr × St)) : Prop := match r with | some (tv, fr', st') => regW P ops K KP rest (fr'.put dst tv) st' | none => False
theorem goW_some {tv : Tv} {fr' : Fr} {st' : St} : goW P ops K KP rest dst (some (tv, fr', st')) = regW P ops K KP rest (fr'.put dst tv) st' := rfl
def oV (fr : Fr) (st : St) (r : Option AV) : Option (Tv × Fr × St) := match r with | some r => some (.v r, fr, st) | none => none
theorem oV_some {r : AV} : oV fr st (some r) = some (.v r, fr, st) := rfl
def oVS (fr : Fr) (r : Option (AV × St)) : Option (Tv × Fr × St) := match r with | some (r, st) => some (.v r, fr, st) | none => none
theorem oVS_some {r : AV} : oVS fr (some (r, st)) = some (.v r, fr, st) := rfl
def oT (fr : Fr) (st : St) (r : Option Tv) : Option (Tv × Fr × St) := match r with | some r => some (r, fr, st) | none => none
theorem oT_some {r : Tv} : oT fr st (some r) = some (r, fr, st) := rfl
def oS (r : Option (Fr × St)) : Option (Tv × Fr × St) := match r with | some (fr, st) => some (.u, fr, st) | none => none
theorem oS_some : oS (some (fr, st)) = some (.u, fr, st) := rfl

theorem regW_nil : regW P ops K KP [] fr st = K fr st := rfl
theorem regW_cons : regW P ops K KP (⟨dst, op, ty, pos, after, none⟩ :: rest) fr st = (dstOk fr ⟨dst, op, ty, pos, after, none⟩ = true ∧ runW P ops K KP rest ⟨dst, op, ty, pos, after, none⟩ fr st) := rfl
theorem regW_hide {l : List Oper} (h : ∀ K' : Fr → St → Prop, (∀ fr st, K fr st → K' fr st) → regW P ops K' KP l fr st) : regW P ops K KP l fr st := h K fun _ _ h => h
/-- Behind a guard. -/
def grdW (P : Program) (ops : Array Oper) (K : Fr → St → Prop) (KP : AV → Fr → St → Prop) (rest : List Oper) (o : Oper) (fr : Fr) (st : St) (want : Bool) (c : Tv) : Prop := match c with
  | .v (.val (.bool b)) => (b = want → runW P ops K KP rest o fr st) ∧ (b ≠ want → regW P ops K KP rest (fr.put o.dst (.v (.val undef))) st)
  | .v (.val (.tuple _)) => regW P ops K KP rest (fr.put o.dst (.v (.val undef))) st
  | _ => False
theorem grdW_bool {o : Oper} {want b : Bool} : grdW P ops K KP rest o fr st want (.v (.val (.bool b))) = ((b = want → runW P ops K KP rest o fr st) ∧ (b ≠ want → regW P ops K KP rest (fr.put o.dst (.v (.val undef))) st)) := rfl
theorem grdW_undef {o : Oper} {want : Bool} : grdW P ops K KP rest o fr st want (.v (.val undef)) = regW P ops K KP rest (fr.put o.dst (.v (.val undef))) st := rfl
theorem regW_guarded {j d : Nat} {want : Bool} (h : guardD ops j = some d) : regW P ops K KP (⟨dst, op, ty, pos, after, some (j, want)⟩ :: rest) fr st = (dstOk fr ⟨dst, op, ty, pos, after, some (j, want)⟩ = true ∧ grdW P ops K KP rest ⟨dst, op, ty, pos, after, some (j, want)⟩ fr st want (look fr.tmps d)) := by
  unfold regW grdW
  simp only [h]
  rfl
theorem dstOk_some {d : Nat} {g : Option (Nat × Bool)} : dstOk fr ⟨some d, op, ty, pos, after, g⟩ = Nat.blt d fr.N := rfl
theorem dstOk_none {g : Option (Nat × Bool)} : dstOk fr ⟨none, op, ty, pos, after, g⟩ = true := rfl

variable {g : Option (Nat × Bool)} {d : Nat} {x y z : Operand} {t s : TypeId} {a b : AV}
theorem runW_move : runW P ops K KP rest ⟨dst, .move x, ty, pos, after, g⟩ fr st = goW P ops K KP rest dst (some (fr.ev x, fr, st)) := rfl
theorem runW_assign : runW P ops K KP rest ⟨dst, .assign x, ty, pos, after, g⟩ fr st = goW P ops K KP rest dst (some (fr.ev x, fr, st)) := rfl
def pickO (fr : Fr) (st : St) (c a b : Tv) : Option (Tv × Fr × St) := match c with | .v (.val (.bool t)) => some (pickT t a b, fr, st) | _ => none
theorem pickO_bool {t : Bool} {a b : Tv} : pickO fr st (.v (.val (.bool t))) a b = some (pickT t a b, fr, st) := rfl
theorem runW_pick {c : Operand} : runW P ops K KP rest ⟨dst, .pick c x y, ty, pos, after, g⟩ fr st = goW P ops K KP rest dst (pickO fr st (fr.ev c) (fr.ev x) (fr.ev y)) := rfl
theorem runW_alloc : runW P ops K KP rest ⟨dst, .alloc t, ty, pos, after, g⟩ fr st = goW P ops K KP rest dst (allocF P ⟨dst, .alloc t, ty, pos, after, g⟩ t fr st) := rfl
theorem allocF_some {cs : List AV} (h : zeroF P t = some cs) : allocF P ⟨some d, op, ty, pos, after, g⟩ t fr st = bif fr.objs.contains d then some (.v (.ptr st.mem.length 0), fr, { st with mem := st.mem ++ [.cells cs] }) else some (.l d 0, fr.newBox d cs, st) := by
  unfold allocF; simp only [h]
theorem runW_box : runW P ops K KP rest ⟨dst, .box t x, ty, pos, after, g⟩ fr st = goW P ops K KP rest dst (boxF ⟨dst, .box t x, ty, pos, after, g⟩ (fr.ev x) fr st) := rfl
theorem boxF_some {o : Oper} {a : AV} (hd : o.dst = some d) (h : a.cells.all AV.scalar = true) : boxF o (.v a) fr st = bif fr.froz.contains d then some (.v (.rptr a.cells 0), fr, st) else bif fr.objs.contains d then some (.v (.ptr st.mem.length 0), fr, { st with mem := st.mem ++ [.cells a.cells] }) else some (.l d 0, fr.newBox d a.cells, st) := by
  unfold boxF; simp only [hd, h, if_true]
def oL (P : Program) (t : TypeId) (x : Operand) (fr : Fr) (st : St) (r : Option AV) : Option (Tv × Fr × St) := match r with | some r => some (.v r, fr, st) | none => match globF P t x with | some r => some (.v r, fr, st) | none => none
theorem oL_some {r : AV} : oL P t x fr st (some r) = some (.v r, fr, st) := rfl
theorem runW_load : runW P ops K KP rest ⟨dst, .load t x, ty, pos, after, g⟩ fr st = goW P ops K KP rest dst (oL P t x fr st (loadF P t (fr.ev x) fr st)) := rfl
theorem runW_store : runW P ops K KP rest ⟨dst, .store t x y, ty, pos, after, g⟩ fr st = goW P ops K KP rest dst (oS (storeF P t (fr.ev x) (fr.ev y) fr st)) := rfl
theorem runW_build {parts : Array (Nat × Operand)} : runW P ops K KP rest ⟨dst, .build t parts, ty, pos, after, g⟩ fr st = goW P ops K KP rest dst (oV fr st (buildF P t parts fr)) := rfl
def bsO (P : Program) (fr : Fr) (st : St) (t : TypeId) (r : Option AV) : Option (Tv × Fr × St) := if zeroOk P t = true then oV fr st r else none
theorem bsO_ok {r : Option AV} (h : zeroOk P t = true) : bsO P fr st t r = oV fr st r := if_pos h
theorem runW_buildSlice {parts : Array (Nat × Operand)} {n : Nat} : runW P ops K KP rest ⟨dst, .buildSlice t n parts, ty, pos, after, g⟩ fr st = goW P ops K KP rest dst (bsO P fr st t (buildSliceF P t n parts fr)) := rfl
def nilO (fr : Fr) (st : St) (c : Tv) : Option (Tv × Fr × St) := match c with | .l y off => some (.l y off, fr, st) | .v (.ptr i off) => some (.v (.ptr i off), fr, st) | .v (.rptr cs off) => some (.v (.rptr cs off), fr, st) | _ => none
theorem nilO_l {y off : Nat} : nilO fr st (.l y off) = some (.l y off, fr, st) := rfl
theorem nilO_ptr {y off : Nat} : nilO fr st (.v (.ptr y off)) = some (.v (.ptr y off), fr, st) := rfl
theorem nilO_rptr {cs : List AV} {off : Nat} : nilO fr st (.v (.rptr cs off)) = some (.v (.rptr cs off), fr, st) := rfl
theorem runW_nilCheck : runW P ops K KP rest ⟨dst, .nilCheck x, ty, pos, after, g⟩ fr st = goW P ops K KP rest dst (nilO fr st (fr.ev x)) := rfl
def binO (P : Program) (o : Oper) (op : BinOp) (t : TypeId) (fr : Fr) (st : St) (x y : Tv) : Option (Tv × Fr × St) := match x, y with
  | .v a, .v b => match binF P op t a b with | some r => some (.v r, fr, st) | none => match groundF P o fr with | some v => some (.v (.of v), fr, st) | none => none
  | _, _ => none
theorem binO_some {o : Oper} {bo : BinOp} {r : AV} (h : binF P bo t a b = some r) : binO P o bo t fr st (.v a) (.v b) = some (.v r, fr, st) := by
  unfold binO; simp only [h]
theorem runW_binOp {op2 : BinOp} {t2 : TypeId} : runW P ops K KP rest ⟨dst, .binOp op2 t x y t2, ty, pos, after, g⟩ fr st = goW P ops K KP rest dst (binO P ⟨dst, .binOp op2 t x y t2, ty, pos, after, g⟩ op2 t fr st (fr.ev x) (fr.ev y)) := rfl
def unO (op : UnOp) (fr : Fr) (st : St) (x : Tv) : Option (Tv × Fr × St) := match op, x with
    | .not, .v (.val (.bool b)) => some (.v (.val (.bool (!b))), fr, st)
    | .neg, .v (.val (.int k n)) => some (.v (.val (.int k (k.wrap (0 - n)))), fr, st)
    | _, _ => none
theorem unO_not {b : Bool} : unO .not fr st (.v (.val (.bool b))) = some (.v (.val (.bool (!b))), fr, st) := rfl
theorem unO_neg {k : IntKind} {n : Int} : unO .neg fr st (.v (.val (.int k n))) = some (.v (.val (.int k (k.wrap (0 - n)))), fr, st) := rfl
theorem runW_unOp {u : UnOp} : runW P ops K KP rest ⟨dst, .unOp u t x, ty, pos, after, g⟩ fr st = goW P ops K KP rest dst (unO u fr st (fr.ev x)) := rfl
def convO (P : Program) (src dst : TypeId) (fr : Fr) (st : St) (x : Tv) : Option (Tv × Fr × St) := match x, intK P src, intK P dst with
    | .v (.val (.int _ n)), some _, some k => some (.v (.val (.int k (k.wrap n))), fr, st)
    | _, _, _ => none
theorem convO_int {k k1 k2 : IntKind} {n : Int} (h1 : intK P t = some k1) (h2 : intK P s = some k2) : convO P t s fr st (.v (.val (.int k n))) = some (.v (.val (.int k2 (k2.wrap n))), fr, st) := by
  unfold convO; simp only [h1, h2]
theorem runW_convert : runW P ops K KP rest ⟨dst, .convert t s x, ty, pos, after, g⟩ fr st = goW P ops K KP rest dst (convO P t s fr st (fr.ev x)) := rfl
def mkO (P : Program) (t : TypeId) (fr : Fr) (st : St) (x : Tv) : Option (Tv × Fr × St) := match x with | .v a => if concr P t = true then some (.v (.iface t a), fr, st) else none | _ => none
theorem mkO_v (h : concr P t = true) : mkO P t fr st (.v a) = some (.v (.iface t a), fr, st) := by
  unfold mkO; simp only [h, if_true]
theorem runW_makeInterface : runW P ops K KP rest ⟨dst, .makeInterface t x, ty, pos, after, g⟩ fr st = goW P ops K KP rest dst (mkO P t fr st (fr.ev x)) := rfl
def fnO (fn : Fn) (fr : Fr) (st : St) (f c : Option (List AV)) : Option (Tv × Fr × St) := match f, c with | some f, some c => some (.v (.func fn f c), fr, st) | _, _ => none
theorem fnO_some {fn : Fn} {f c : List AV} : fnO fn fr st (some f) (some c) = some (.v (.func fn f c), fr, st) := rfl
theorem runW_makeFunc {fn : Fn} {first cap : Array Operand} : runW P ops K KP rest ⟨dst, .makeFunc fn first cap, ty, pos, after, g⟩ fr st = goW P ops K KP rest dst (fnO fn fr st (listEv fr first) (listEv fr cap)) := rfl
theorem runW_makeMap : runW P ops K KP rest ⟨dst, .makeMap t none, ty, pos, after, g⟩ fr st = goW P ops K KP rest dst (some (.v (.map st.mem.length), fr, { st with mem := st.mem ++ [.map []] })) := rfl
def msO (P : Program) (t : TypeId) (fr : Fr) (st : St) (x y : Tv) : Option (Tv × Fr × St) := match x, y with | .v (.val (.int _ n)), .v (.val (.int _ m)) => oVS fr (makeF P t n m st) | _, _ => none
theorem msO_int {k k1 : IntKind} {n m : Int} : msO P t fr st (.v (.val (.int k n))) (.v (.val (.int k1 m))) = oVS fr (makeF P t n m st) := rfl
theorem runW_makeSlice : runW P ops K KP rest ⟨dst, .makeSlice t x y, ty, pos, after, g⟩ fr st = goW P ops K KP rest dst (msO P t fr st (fr.ev x) (fr.ev y)) := rfl
def slO (P : Program) (t : TypeId) (fr : Fr) (st : St) (x : Tv) (l h : Option (Option AV)) : Option (Tv × Fr × St) := match x, l, h with | .v a, some l, some h => oV fr st (sliceF P t a l h) | _, _, _ => none
theorem slO_v {l h : Option AV} : slO P t fr st (.v a) (some l) (some h) = oV fr st (sliceF P t a l h) := rfl
theorem runW_slice {lo hi : Option Operand} : runW P ops K KP rest ⟨dst, .slice t x lo hi none, ty, pos, after, g⟩ fr st = goW P ops K KP rest dst (slO P t fr st (fr.ev x) (evO fr lo) (evO fr hi)) := rfl
def faO (fr : Fr) (st : St) (x : Tv) (n : Option Nat) : Option (Tv × Fr × St) := match n with | some n => oT fr st (x.addP n) | none => none
theorem faO_some {x : Tv} {n : Nat} : faO fr st x (some n) = oT fr st (x.addP n) := rfl
theorem runW_fieldAddr {n : Nat} : runW P ops K KP rest ⟨dst, .fieldAddr t x n, ty, pos, after, g⟩ fr st = goW P ops K KP rest dst (faO fr st (fr.ev x) (fieldOff P t n)) := rfl
def fdO (P : Program) (t : TypeId) (n : Nat) (fr : Fr) (st : St) (x : Tv) : Option (Tv × Fr × St) := match x with | .v a => oV fr st (fieldF P t a n) | _ => none
theorem fdO_v {n : Nat} : fdO P t n fr st (.v a) = oV fr st (fieldF P t a n) := rfl
theorem runW_field {n : Nat} : runW P ops K KP rest ⟨dst, .field t x n, ty, pos, after, g⟩ fr st = goW P ops K KP rest dst (fdO P t n fr st (fr.ev x)) := rfl
theorem runW_indexAddr : runW P ops K KP rest ⟨dst, .indexAddr t x y, ty, pos, after, g⟩ fr st = goW P ops K KP rest dst (oT fr st (indexAddrF P t (fr.ev x) (fr.ev y))) := rfl
def ixO (P : Program) (t : TypeId) (fr : Fr) (st : St) (x y : Tv) : Option (Tv × Fr × St) := match x, y with | .v a, .v b => oV fr st (indexF P t a b) | _, _ => none
theorem ixO_v : ixO P t fr st (.v a) (.v b) = oV fr st (indexF P t a b) := rfl
theorem runW_index : runW P ops K KP rest ⟨dst, .index t x y, ty, pos, after, g⟩ fr st = goW P ops K KP rest dst (ixO P t fr st (fr.ev x) (fr.ev y)) := rfl
def luO (P : Program) (t : TypeId) (ok : Bool) (fr : Fr) (st : St) (x y : Tv) : Option (Tv × Fr × St) := match x, y with | .v a, .v b => oV fr st (lookupF P t a b ok st) | _, _ => none
theorem luO_v {ok : Bool} : luO P t ok fr st (.v a) (.v b) = oV fr st (lookupF P t a b ok st) := rfl
theorem runW_lookup {ok : Bool} : runW P ops K KP rest ⟨dst, .lookup t x y ok, ty, pos, after, g⟩ fr st = goW P ops K KP rest dst (luO P t ok fr st (fr.ev x) (fr.ev y)) := rfl
def muO (P : Program) (t : TypeId) (fr : Fr) (st : St) (x y z : Tv) : Option (Tv × Fr × St) := match x, y, z with | .v a, .v b, .v c => (match mapSetF P t a b c st with | some st' => some (.u, fr, st') | none => none) | _, _, _ => none
theorem muO_v {c : AV} {st' : St} (h : mapSetF P t a b c st = some st') : muO P t fr st (.v a) (.v b) (.v c) = some (.u, fr, st') := by
  unfold muO; simp only [h]
theorem runW_mapUpdate : runW P ops K KP rest ⟨dst, .mapUpdate t x y z, ty, pos, after, g⟩ fr st = goW P ops K KP rest dst (muO P t fr st (fr.ev x) (fr.ev y) (fr.ev z)) := rfl
def taO (P : Program) (t : TypeId) (ok : Bool) (fr : Fr) (st : St) (x : Tv) : Option (Tv × Fr × St) := match x with | .v a => oV fr st (assertF P a t ok) | _ => none
theorem taO_v {ok : Bool} : taO P t ok fr st (.v a) = oV fr st (assertF P a t ok) := rfl
theorem runW_typeAssert {ok : Bool} : runW P ops K KP rest ⟨dst, .typeAssert x s t ok, ty, pos, after, g⟩ fr st = goW P ops K KP rest dst (taO P t ok fr st (fr.ev x)) := rfl
def exO (i : Nat) (fr : Fr) (st : St) (x : Tv) : Option (Tv × Fr × St) := match x with | .v (.tuple vs) => oV fr st vs[i]? | _ => none
theorem exO_tuple {i : Nat} {vs : List AV} : exO i fr st (.v (.tuple vs)) = oV fr st vs[i]? := rfl
theorem runW_extract {i : Nat} : runW P ops K KP rest ⟨dst, .extract x i, ty, pos, after, g⟩ fr st = goW P ops K KP rest dst (exO i fr st (fr.ev x)) := rfl
def pnW (KP : AV → Fr → St → Prop) (fr : Fr) (st : St) (c : Tv) : Prop := match c with | .v (.iface t a) => KP (.iface t a) fr st | _ => False
theorem pnW_iface : pnW KP fr st (.v (.iface t a)) = KP (.iface t a) fr st := rfl
theorem runW_panic {a : AV} (h : fr.ev x = .v (.iface t a)) : runW P ops K KP rest ⟨dst, .panic x, ty, pos, after, g⟩ fr st = pnW KP fr st (fr.ev x) := by
  unfold runW opW calleeF panicF pnW; simp only [h]
def biO (P : Program) (bi : Builtin) (ts : Array TypeId) (fr : Fr) (st : St) (l : Option (List AV)) : Option (Tv × Fr × St) := match l with | some l => oVS fr (builtinF P bi ts l st) | none => none
theorem biO_some {bi : Builtin} {ts : Array TypeId} {l : List AV} : biO P bi ts fr st (some l) = oVS fr (builtinF P bi ts l st) := rfl
theorem runW_builtin {bi : Builtin} {xs : Array Operand} {ts : Array TypeId} : runW P ops K KP rest ⟨dst, .call { callee := .builtin bi, args := xs, argTypes := ts }, ty, pos, after, g⟩ fr st = goW P ops K KP rest dst (biO P bi ts fr st (listEv fr xs)) := rfl
def callW (P : Program) (ops : Array Oper) (K : Fr → St → Prop) (KP : AV → Fr → St → Prop) (rest : List Oper) (dst : Option Nat) (f : FuncId) (fr : Fr) (st : St) (l : Option (List AV)) : Prop := match l with
  | some l => ∃ e st', Good P f l st e st' ∧ (match e with | .ret v => regW P ops K KP rest (fr.put dst (.v v)) st' | .panic v => KP v fr st')
  | none => False
theorem callW_ret {f : FuncId} {l : List AV} {v : AV} {st' : St} (h : Good P f l st (.ret v) st') (hk : regW P ops K KP rest (fr.put dst (.v v)) st') : callW P ops K KP rest dst f fr st (some l) := ⟨.ret v, st', h, hk⟩
theorem callW_panic {f : FuncId} {l : List AV} {v : AV} {st' : St} (h : Good P f l st (.panic v) st') (hk : KP v fr st') : callW P ops K KP rest dst f fr st (some l) := ⟨.panic v, st', h, hk⟩
/-- A call of a Go function that is named. -/
theorem runW_call {f : FuncId} {xs : Array Operand} {ts : Array TypeId} : runW P ops K KP rest ⟨dst, .call { callee := .value (.func f), args := xs, argTypes := ts }, ty, pos, after, g⟩ fr st = callW P ops K KP rest dst f fr st (listEv fr xs) := by
  have hg : groundF P ⟨dst, .call { callee := .value (.func f), args := xs, argTypes := ts }, ty, pos, after, g⟩ fr = none := by
    unfold groundF
    simp [Op.operands, Call.operands, Fr.ev, Tv.ground, AV.ground]
  unfold runW opW calleeF panicF opF callW
  simp only [Fr.ev, hg]
  cases listEv fr xs with
  | none => rfl
  | some l =>
    have e : [] ++ l ++ [] = l := by simp
    simp only [e]
    rfl
theorem one_int {k : IntKind} {n : Int} : (Value.int k n).oneCell' = true := rfl
theorem one_bool {b : Bool} : (Value.bool b).oneCell' = true := rfl
theorem one_string {s : ByteArray} : (Value.string s).oneCell' = true := rfl
theorem one_nil : Value.nilIface.oneCell' = true := rfl
theorem one_ptr {a : Option Addr} : (Value.pointer a).oneCell' = true := rfl
theorem of_int {k : IntKind} {n : Int} : AV.of (.int k n) = .val (.int k n) := rfl
theorem of_bool {b : Bool} : AV.of (.bool b) = .val (.bool b) := rfl
theorem of_string {s : ByteArray} : AV.of (.string s) = .val (.string s) := rfl
theorem of_nil : AV.of .nilIface = .val .nilIface := rfl
theorem of_ptr : AV.of (.pointer none) = .val (.pointer none) := rfl
theorem of_slice : AV.of (.slice none 0 0) = .slice .nil [] 0 := rfl
/-- A region, then the rest. -/
theorem wpA_reg {P : Program} {id : Nat} {ops : Array Oper} {y : Code} {K : AExit → Fr → St → Prop} {fr : Fr} {st : St} (h : ∀ K' : Fr → St → Prop, (∀ fr st, WpA P y K fr st → K' fr st) → regW P ops K' (fun v => K (.panic v)) ops.toList fr st) : WpA P (.seq (.region id ops false) y) K fr st :=
  wpA_seq (wpA_region (regW_hide h))
theorem wpA_reg1 {P : Program} {id : Nat} {ops : Array Oper} {K : AExit → Fr → St → Prop} {fr : Fr} {st : St} (h : ∀ K' : Fr → St → Prop, (∀ fr st, K .normal fr st → K' fr st) → regW P ops K' (fun v => K (.panic v)) ops.toList fr st) : WpA P (.region id ops false) K fr st :=
  wpA_region (regW_hide h)
end
attribute [simp] one_int one_bool one_string one_nil one_ptr of_int of_bool of_string of_nil of_ptr of_slice
attribute [simp] goW_some oL_some oV_some oVS_some oT_some oS_some regW_nil regW_cons grdW_bool grdW_undef dstOk_some dstOk_none runW_move runW_assign pickO_bool runW_pick runW_alloc runW_box runW_load runW_store runW_build bsO_ok runW_buildSlice nilO_l nilO_ptr nilO_rptr runW_nilCheck binO_some runW_binOp unO_not unO_neg runW_unOp convO_int runW_convert mkO_v runW_makeInterface fnO_some runW_makeFunc runW_makeMap msO_int runW_makeSlice slO_v runW_slice faO_some runW_fieldAddr fdO_v runW_field runW_indexAddr ixO_v runW_index luO_v runW_lookup muO_v runW_mapUpdate taO_v runW_typeAssert exO_tuple runW_extract pnW_iface biO_some runW_builtin runW_call
attribute [simp] Fr.ev Fr.put Fr.newBox fr0 argT look lookB setB dropL Tv.not AV.cells AV.scalar storeF loadF ld Tv.addP splice listEv evO pickT
end Go.Proofs.YtknocbhocdenoaaGreatDoor
