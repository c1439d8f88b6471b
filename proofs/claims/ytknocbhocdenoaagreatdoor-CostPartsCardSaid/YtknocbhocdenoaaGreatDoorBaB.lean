/- Plain Lean: what the functions on expressions compute. -/
import Derived.Test.YtknocbhocdenoaaGreatDoorBaA
namespace Go.Proofs.YtknocbhocdenoaaGreatDoor
open Go Go.RowKit

mutual
def Nd.foldR {α : Type} (f : Nd → List α → α) : Nd → α
  | ⟨k, o, t, n, fl, nm, ks, p⟩ => f ⟨k, o, t, n, fl, nm, ks, p⟩ (Nd.foldL f ks)
def Nd.foldL {α : Type} (f : Nd → List α → α) : List Nd → List α
  | [] => []
  | d :: ds => d.foldR f :: Nd.foldL f ds
end
theorem Nd.foldL_eq {α : Type} (f : Nd → List α → α) : ∀ ds : List Nd, Nd.foldL f ds = ds.map (Nd.foldR f)
  | [] => by simp [Nd.foldL]
  | d :: ds => by simp [Nd.foldL, Nd.foldL_eq f ds]
theorem Nd.foldR_eq {α : Type} (f : Nd → List α → α) (d : Nd) : d.foldR f = f d (d.kids.map (Nd.foldR f)) := by
  cases d
  rw [Nd.foldR, Nd.foldL_eq]
theorem Nd.ind {p : Nd → Prop} (h : ∀ d, (∀ k ∈ d.kids, p k) → p d) (d : Nd) : p d := by
  refine Nd.rec (motive_1 := p) (motive_2 := fun ds => ∀ k ∈ ds, p k) (fun k o t n f nm ks q ih => h _ ih) (by simp) (fun d ds hd hs k hk => ?_) d
  rcases List.mem_cons.1 hk with rfl | hk
  · exact hd
  · exact hs k hk

/-! ### Names -/
def smallP (c : Int) : Bool := decide (97 ≤ c) && decide (c ≤ 122)
def digitP (c : Int) : Bool := decide (48 ≤ c) && decide (c ≤ 57)
def innerP (c : Int) : Bool := smallP c || (digitP c || c == 95)
/-- Every byte from a place on goes on. -/
def allP (p : Int → Bool) (s : ByteArray) : Nat → Nat → Bool
  | 0, _ => true
  | n + 1, i => p (bt s i) && allP p s n (i + 1)

/-! ### What an expression's parts may be -/
/-- Kind, Oper, Type, N, Field: noughts but for what is named. -/
def Nd.zero (d : Nd) : Bool := d.oper == 0 && (d.typ == 0 && (d.n == 0 && (d.field == 0 && d.name.toList == [])))
def Nd.size (d : Nd) : Nat := d.foldR fun _ l => 1 + l.sum
theorem Nd.size_eq (d : Nd) : d.size = 1 + (d.kids.map Nd.size).sum := Nd.foldR_eq _ d
def Nd.weight (d : Nd) : Nat := d.foldR fun d l => if d.kind = 7 then l.getD 0 0 + max (l.getD 1 0) (l.getD 2 0) + 2 else if d.kind = 9 then l.getD 0 0 else 1 + l.sum
theorem Nd.weight_eq (d : Nd) : d.weight = if d.kind = 7 then (d.kids.map Nd.weight).getD 0 0 + max ((d.kids.map Nd.weight).getD 1 0) ((d.kids.map Nd.weight).getD 2 0) + 2 else if d.kind = 9 then (d.kids.map Nd.weight).getD 0 0 else 1 + (d.kids.map Nd.weight).sum := Nd.foldR_eq _ d
/-- Bytes and nodes. -/
def Nd.mass (d : Nd) : Nat := d.foldR fun d l => 1 + d.name.size + l.sum
theorem Nd.mass_eq (d : Nd) : d.mass = 1 + d.name.size + (d.kids.map Nd.mass).sum := Nd.foldR_eq _ d
end Go.Proofs.YtknocbhocdenoaaGreatDoor
