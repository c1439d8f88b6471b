/- Plain Lean: what the functions that the expressions' costs reach compute. -/
import Derived.Test.YtknocbhocdenoaaGreatDoorBaC
import Derived.Test.YtknocbhocdenoaaGreatDoorAwX
namespace Go.Proofs.YtknocbhocdenoaaGreatDoor
open Go Go.RowKit

def bs (l : List UInt8) : ByteArray := ⟨l.toArray⟩
/-- The words of the language, in order. -/
def wordL : List ByteArray := [bs [97, 98, 115], bs [97, 109, 101, 110, 100], bs [97, 115], bs [97, 115, 107], bs [97, 116], bs [98, 105, 100], bs [98, 111, 111, 108], bs [98, 117, 121], bs [99, 97, 110, 99, 101, 108], bs [100, 111], bs [102, 97, 108, 115, 101], bs [102, 111, 107], bs [103, 111, 116, 111], bs [104, 97, 108, 116], bs [104, 97, 115], bs [105, 110, 116], bs [105, 111, 99], bs [108, 97, 115, 116], bs [108, 105, 109, 105, 116], bs [109, 97, 114, 107, 101, 116], bs [109, 97, 120], bs [109, 105, 110], bs [110, 111, 119], bs [111, 102], bs [111, 112, 101, 110], bs [112, 111, 115, 116], bs [112, 114, 105, 99, 101], bs [113, 116, 121], bs [114, 101, 103], bs [115, 101, 108, 108], bs [115, 101, 116], bs [115, 105, 100, 101], bs [115, 108, 111, 116], bs [115, 116, 97, 116, 101], bs [115, 116, 114, 97, 116, 101, 103, 121], bs [115, 117, 98, 109, 105, 116], bs [116, 105, 109, 101], bs [116, 111], bs [116, 114, 117, 101], bs [118, 111, 108, 117, 109, 101], bs [119, 104, 101, 110]]
def wordP (s : ByteArray) : Bool := wordL.any fun w => w.toList == s.toList
/-- How many words stand ahead of a text. -/
def wordPos (s : ByteArray) : Nat := wordL.findIdx fun w => !Op.bytesLess w.toList s.toList
def nameP (s : ByteArray) : Bool := !wordP s && (decide (1 ≤ s.size) && (decide (s.size ≤ 16) && (smallP (bt s 0) && allP innerP s s.size 0)))
/-- May a literal's number be one of its type? -/
def litB (d : Nd) : Bool := if d.typ = 6 then d.n == 1 || d.n == 2 else if d.typ = 5 then d.n == 0 || d.n == 1 else if d.typ = 1 ∨ d.typ = 2 ∨ d.typ = 3 ∨ d.typ = 4 then decide (0 ≤ d.n) else false
def noName (d : Nd) : Bool := d.name.toList == []
/-- Is a node, but for what is below it, one of the table's? -/
def oneB (d : Nd) : Bool :=
  if d.kind = 1 then litB d && (d.oper == 0 && (d.field == 0 && (noName d && d.kids.length == 0)))
  else if d.kind = 2 then nameP d.name && (d.oper == 0 && (d.typ == 0 && (d.n == 0 && (d.field == 0 && d.kids.length == 0))))
  else if d.kind = 3 then decide (1 ≤ d.field) && (decide (d.field ≤ 6) && (d.oper == 0 && (d.typ == 0 && (d.n == 0 && (noName d && d.kids.length == 0)))))
  else if d.kind = 4 then decide (1 ≤ d.field) && (decide (d.field ≤ 3) && (d.oper == 0 && (d.typ == 0 && (d.n == 0 && (noName d && d.kids.length == 0)))))
  else if d.kind = 5 then (d.oper == 1 || d.oper == 2) && (d.typ == 0 && (d.n == 0 && (d.field == 0 && (noName d && d.kids.length == 1))))
  else if d.kind = 6 then decide (6 ≤ d.oper) && (decide (d.oper ≤ 18) && (d.typ == 0 && (d.n == 0 && (d.field == 0 && (noName d && d.kids.length == 2)))))
  else if d.kind = 7 then d.oper == 0 && (d.typ == 0 && (d.n == 0 && (d.field == 0 && (noName d && d.kids.length == 3))))
  else if d.kind = 8 then decide (3 ≤ d.oper) && (decide (d.oper ≤ 5) && (d.typ == 0 && (d.n == 0 && (d.field == 0 && (noName d && d.kids.length == (if d.oper = 3 then 1 else 2))))))
  else if d.kind = 9 then decide (1 ≤ d.typ) && (decide (d.typ ≤ 4) && (d.oper == 0 && (d.n == 0 && (d.field == 0 && (noName d && d.kids.length == 1)))))
  else false
def Nd.formed (d : Nd) : Bool := d.foldR fun d l => oneB d && l.all id
theorem Nd.formed_eq (d : Nd) : d.formed = (oneB d && (d.kids.map Nd.formed).all id) := Nd.foldR_eq _ d
/-- How tightly a node binds. -/
def levelI (d : Nd) : Int := if d.kind = 7 then 1 else if d.kind = 5 then 7 else if d.kind = 6 then (if d.oper = 18 then 2 else if d.oper = 17 then 3 else if d.oper ≥ 11 then 4 else if d.oper ≥ 8 then 6 else 5) else 8
def placeI (d : Nd) (i : Int) : Int := if levelI d = 1 ∧ i = 0 then 2 else if levelI d = 4 then 5 else if levelI d = 7 then 7 else if levelI d = 1 ∨ levelI d = 8 then 1 else IntKind.i64.wrap (levelI d + i)
/-- One kid more of a depth. -/
def depthStep (d : Nd) (i : Int) (k : Nd) (r : Int) (most : Int) : Int :=
  let e := if levelI k < placeI d i then r + 1 else r
  let e := if d.kind = 6 then e else if d.kind = 7 then e + (if 1 < i then 1 else i) else e + 1
  if e > most then e else most
def depthGo (d : Nd) : Int → List Nd → List Int → Int → Int
  | i, k :: ks, r :: rs, most => depthGo d (i + 1) ks rs (depthStep d i k r most)
  | _, _, _, most => most
def Nd.depth (d : Nd) : Int := d.foldR fun d l => depthGo d 0 d.kids l 0
theorem Nd.depth_eq (d : Nd) : d.depth = depthGo d 0 d.kids (d.kids.map Nd.depth) 0 := Nd.foldR_eq _ d
def checkE (d : Nd) : Int := bif d.formed then (bif decide (d.depth ≤ 24) then 0 else 122) else 120
def exprW (d : Nd) : Int := bif d.formed then d.weight else 0
/-- A node's bytes and kids, till it is too much. -/
def weighGo : List (Int → Int → Int) → Int → Int → Int
  | [], n, _ => n
  | f :: fs, n, deep => if n ≤ 1048576 then weighGo fs (f n (deep + 1)) deep else n
def Nd.weigh (d : Nd) : Int → Int → Int := d.foldR fun d l n deep => if deep > 60000 then 1048577 else weighGo l (n + 1 + d.name.size) deep
theorem Nd.weigh_eq (d : Nd) (n deep : Int) : d.weigh n deep = if deep > 60000 then 1048577 else weighGo (d.kids.map Nd.weigh) (n + 1 + d.name.size) deep := by
  have := congrFun (congrFun (Nd.foldR_eq (fun d l (n deep : Int) => if deep > 60000 then 1048577 else weighGo l (n + 1 + d.name.size) deep) d) n) deep
  exact this
/-- Every name is one that a machine can hold. -/
def Nd.fit (d : Nd) : Bool := d.foldR fun d l => decide (d.name.size ≤ 140737488355328) && (decide (d.kids.length ≤ 140737488355328) && l.all id)
theorem Nd.fit_eq (d : Nd) : d.fit = (decide (d.name.size ≤ 140737488355328) && (decide (d.kids.length ≤ 140737488355328) && (d.kids.map Nd.fit).all id)) := Nd.foldR_eq _ d

/-! ### What calls give -/
def iV (n : Int) : AV := .val (.int .i64 n)
def bV (b : Bool) : AV := .val (.bool b)
def uV : AV := .tuple []
def wrongV (e : Int) : AV := .iface 278 (.agg [iV e])
def one1 (v : AV) (st : St) : Option (Br (AEnd × St)) := some (.one (.ret v, st))
abbrev SigT := List AV → St → Option (Br (AEnd × St))
noncomputable def listA {α : Type} [Inhabited α] (c : List α → List AV) (v : AV) : List α := match v with | .slice _ cs _ => Classical.epsilon (fun l => c l = cs) | _ => []
noncomputable def sigL : List (Nat × SigT) := [
  (221, fun | [.val (.int _ c)], st => one1 (bV (smallP c)) st | _, _ => none),
  (244, fun | [.val (.int _ c)], st => one1 (bV (digitP c)) st | _, _ => none),
  (223, fun | [.val (.int _ c)], st => one1 (bV (innerP c)) st | _, _ => none),
  (114, fun | [.val (.int _ c)], st => one1 (bV (smallP c)) st | _, _ => none),
  (116, fun | [.val (.int _ c)], st => one1 (bV (digitP c)) st | _, _ => none),
  (186, fun | [.val (.int _ c)], st => one1 (bV (innerP c)) st | _, _ => none),
  (258, fun (_ : List AV) st => one1 (bV false) st),
  (255, fun (_ : List AV) st => one1 (bV false) st),
  (254, fun | [.val (.string a), .val (.string b)], st => one1 (bV (Op.bytesLess a.toList b.toList)) st | _, _ => none),
  (243, fun (_ : List AV) st => one1 (.slice .ro (wordL.map fun w => .val (.string w)) 41) st),
  (218, fun (_ : List AV) st => one1 (.slice .ro (wordL.map fun w => .val (.string w)) 41) st),
  (242, fun | [_, .val (.string s)], st => one1 (.tuple [iV (wordPos s), bV (wordP s)]) st | _, _ => none),
  (222, fun | [.val (.string s)], st => one1 (bV (wordP s)) st | _, _ => none),
  (185, fun | [.val (.string s)], st => one1 (bV (wordP s)) st | _, _ => none),
  (195, fun | [.val (.string s)], st => one1 (bV (nameP s)) st | _, _ => none),
  (110, fun | [.val (.string s)], st => one1 (bV (nameP s)) st | _, _ => none),
  (135, fun | [.val (.bool b), .val (.int _ e)], st => some (.ite b (.one (.ret uV, st)) (.one (.panic (wrongV e), st))) | _, _ => none),
  (224, fun | [a], st => one1 (bV (litB (ndA a))) st | _, _ => none),
  (225, fun | [.agg [k, o, t, n, f, m, _, _]], st => one1 (.agg [k, o, t, n, f, m]) st | _, _ => none),
  (196, fun | [a], st => some (.ite (ndA a).formed (.one (.ret uV, st)) (.one (.panic (wrongV 120), st))) | _, _ => none),
  (228, fun | [a], st => one1 (iV (levelI (ndA a))) st | _, _ => none),
  (229, fun | [a, .val (.int _ i)], st => one1 (iV (placeI (ndA a) i)) st | _, _ => none),
  (202, fun | [a], st => one1 (iV (ndA a).depth) st | _, _ => none),
  (154, fun | [a], st => some (.ite (ndA a).formed (.ite (decide ((ndA a).depth ≤ 24)) (.one (.ret uV, st)) (.one (.panic (wrongV 122), st))) (.one (.panic (wrongV 120), st))) | _, _ => none),
  (153, fun | [.rptr cs 0], st => some (.ite (ndA (.agg cs)).formed (.ite (decide ((ndA (.agg cs)).depth ≤ 24)) (.one (.ret uV, st)) (.one (.panic (wrongV 122), st))) (.one (.panic (wrongV 120), st))) | _, _ => none),
  (132, fun | [.func (.func g) [] [.rptr cs 0]], st => bif g == 153 then one1 (iV (checkE (ndA (.agg cs)))) st else none | _, _ => none),
  (79, fun | [a], st => one1 (iV (checkE (ndA a))) st | _, _ => none),
  (128, fun | [.val (.int _ a), .slice _ [.val (.int _ b)] _], st => one1 (iV (if b > a then b else a)) st | _, _ => none),
  (121, fun | [a], st => one1 (iV (ndA a).weight) st | _, _ => none),
  (54, fun | [a], st => one1 (iV (exprW (ndA a))) st | _, _ => none),
  (192, fun | [a], st => one1 (bV (ndA a).zero) st | _, _ => none),
  (191, fun | [a], st => one1 (bV (litB (ndA a) && ((ndA a).oper == 0 && ((ndA a).field == 0 && (noName (ndA a) && (ndA a).kids.length == 0))))) st | _, _ => none),
  (123, fun | [a], st => one1 (bV (oneB (ndA a))) st | _, _ => none),
  (56, fun | [a], st => one1 (bV (ndA a).formed) st | _, _ => none),
  (57, fun | [a], st => one1 (iV (ndA a).size) st | _, _ => none),
  (66, fun | [a, .val (.int _ n), .val (.int _ deep)], st => one1 (iV ((ndA a).weigh n deep)) st | _, _ => none),
  (53, fun | [a], st => one1 (bV (decide ((ndA a).weigh 0 0 > 1048576))) st | _, _ => none),
  (52, fun (_ : List AV) st => one1 (bV true) st)]
def strAt (cs : List AV) (off : Nat) : ByteArray := match cs[off]? with | some (.val (.string s)) => s | _ => ⟨#[]⟩
def intAt (cs : List AV) (off : Nat) : Int := match cs[off]? with | some (.val (.int _ n)) => n | _ => 0
/-- Data that is loaded by its type. -/
noncomputable def typ0 (t : TypeId) : Option (List AV → Nat → AV) :=
  bif t == 35 then some fun cs off => (ndAt cs off).av else bif t == 9 then some fun cs off => .val (.string (strAt cs off)) else bif t == 3 then some fun cs off => .val (.int .i64 (intAt cs off)) else none

/-! ### What loops give -/
def strN (l : Option Tv) : ByteArray := match l with | some (.v (.val (.string s))) => s | _ => ⟨#[]⟩
noncomputable def kidsA : AV → List Nd
  | .slice _ cs _ => decC flat cs
  | _ => []
theorem kidsA_flat (w : Own) (ds : List Nd) (n : Nat) : kidsA (.slice w (flat ds) n) = ds := decC_eq flat_inj ds
/-- A loop's end with these slots. -/
def lpOut (fr : Fr) (ts : List (Nat × Tv)) : Fr := { fr with tmps := ts, boxes := [] }
def lp1 (id : Nat) (fr : Fr) (ts : List (Nat × Tv)) (st : St) : Option (Br (AExit × Fr × St)) := some (.one (.exit id, lpOut fr ts, st))
abbrev LSigT := Fr → St → Option (Br (AExit × Fr × St))
noncomputable def lsigL : List (Nat × List (Nat × LSigT)) := [
  (195, [(4, fun fr st => match look fr.tmps 0 with | .v (.val (.string s)) => some (.ite (allP innerP s s.size 0) (.one (.exit 0, lpOut fr [(2, .u)], st)) (.one (.ret, lpOut fr [(2, .v (bV false))], st))) | _ => none)]),
  (110, [(5, fun fr st => match look fr.tmps 0 with | .v (.val (.string s)) => some (.ite (allP innerP s s.size 0) (.one (.exit 0, lpOut fr [(2, .u)], st)) (.one (.ret, lpOut fr [(2, .v (bV false))], st))) | _ => none)]),
  (185, [(3, fun fr st => match look fr.tmps 0 with | .v (.val (.string s)) => some (.ite (wordP s) (.one (.ret, lpOut fr [(2, .v (bV true))], st)) (.one (.exit 0, lpOut fr [(2, .u)], st))) | _ => none)]),
  (196, [(32, fun fr st => match look fr.tmps 127 with | .v a => some (.ite ((kidsA a).all Nd.formed) (.one (.exit 1, lpOut fr [], st)) (.one (.panic (wrongV 120), lpOut fr [], st))) | _ => none)]),
  (202, [(3, fun fr st => match lookB fr.boxes 1, look fr.tmps 8 with | some cs, .v a => lp1 0 fr [(3, .v (iV (depthGo (ndA (.agg cs)) 0 (kidsA a) ((kidsA a).map Nd.depth) 0)))] st | _, _ => none)]),
  (121, [(8, fun fr st => match look fr.tmps 37 with | .v a => lp1 1 fr [(3, .v (iV (1 + (((kidsA a).map Nd.weight).sum : Nat))))] st | _ => none)]),
  (56, [(3, fun fr st => match lookB fr.boxes 1 with | some cs => lp1 0 fr [(3, .v (bV (ndA (.agg cs)).formed))] st | _ => none)]),
  (57, [(3, fun fr st => match lookB fr.boxes 1 with | some cs => lp1 0 fr [(3, .v (iV (ndA (.agg cs)).size))] st | _ => none)]),
  (66, [(5, fun fr st => match lookB fr.boxes 3, look fr.tmps 1, look fr.tmps 2 with | some cs, .v (.val (.int _ n)), .v (.val (.int _ deep)) => lp1 0 fr [(1, .v (iV (weighGo ((ndA (.agg cs)).kids.map Nd.weigh) n deep)))] st | _, _, _ => none)])]
def unrollL : List (Nat × List (Nat × Nat)) := [(242, [(3, 7)]), (128, [(2, 2)])]
/-- The symbolic runs' words, by function. -/
noncomputable def cf (f : Nat) : SCfg where
  tr := trs f
  sig := fun g args st => match findL g sigL with | some F => F args st | none => none
  typ := typ0
  mtyp := fun _ => none
  live := liveI f
  unroll := fun id => match findL f unrollL with | some l => (match findL id l with | some n => n | none => 0) | none => 0
  lsig := fun id fr st => match findL f lsigL with | some l => (match findL id l with | some F => F fr st | none => none) | none => none
/-- Likewise; what is loaded is known. -/
noncomputable def cfB (f : Nat) : SCfg := { cf f with typ := fun _ => none }
end Go.Proofs.YtknocbhocdenoaaGreatDoor
