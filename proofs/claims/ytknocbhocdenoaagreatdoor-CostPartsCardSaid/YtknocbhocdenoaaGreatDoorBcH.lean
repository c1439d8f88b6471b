/- Contract: CostParts. -/
import Derived.Test.YtknocbhocdenoaaGreatDoorBcG
import Derived.Test.YtknocbhocdenoaaGreatDoorBbJ
namespace Go.Proofs.YtknocbhocdenoaaGreatDoor
open Go Go.RowKit

theorem nd1 (k o t : Int) (a : Nd) : AV.agg [.val (.int .u8 k), .val (.int .u8 o), .val (.int .u8 t), .val (.int .i64 0), .val (.int .u8 0), .val (.string (ByteArray.mk #[])), .slice .ro [.val (.int .u8 a.kind), .val (.int .u8 a.oper), .val (.int .u8 a.typ), .val (.int .i64 a.n), .val (.int .u8 a.field), .val (.string a.name), .slice .ro (flat a.kids) a.kids.length, .val (.int .i64 a.pos)] 1, .val (.int .i64 0)] = (Nd.mk k o t 0 0 (ByteArray.mk #[]) [a] 0).av := by
  unfold Nd.av Nd.cells
  rw [show flat [a] = a.cells ++ [] by rw [flat_cons, flat_nil]]
  rfl
theorem nd2 (k o t : Int) (a b : Nd) : AV.agg [.val (.int .u8 k), .val (.int .u8 o), .val (.int .u8 t), .val (.int .i64 0), .val (.int .u8 0), .val (.string (ByteArray.mk #[])), .slice .ro [.val (.int .u8 a.kind), .val (.int .u8 a.oper), .val (.int .u8 a.typ), .val (.int .i64 a.n), .val (.int .u8 a.field), .val (.string a.name), .slice .ro (flat a.kids) a.kids.length, .val (.int .i64 a.pos), .val (.int .u8 b.kind), .val (.int .u8 b.oper), .val (.int .u8 b.typ), .val (.int .i64 b.n), .val (.int .u8 b.field), .val (.string b.name), .slice .ro (flat b.kids) b.kids.length, .val (.int .i64 b.pos)] 2, .val (.int .i64 0)] = (Nd.mk k o t 0 0 (ByteArray.mk #[]) [a, b] 0).av := by
  unfold Nd.av Nd.cells
  rw [show flat [a, b] = a.cells ++ (b.cells ++ []) by rw [flat_cons, flat_cons, flat_nil]]
  rfl
theorem nd3 (k o t : Int) (a b c : Nd) : AV.agg [.val (.int .u8 k), .val (.int .u8 o), .val (.int .u8 t), .val (.int .i64 0), .val (.int .u8 0), .val (.string (ByteArray.mk #[])), .slice .ro [.val (.int .u8 a.kind), .val (.int .u8 a.oper), .val (.int .u8 a.typ), .val (.int .i64 a.n), .val (.int .u8 a.field), .val (.string a.name), .slice .ro (flat a.kids) a.kids.length, .val (.int .i64 a.pos), .val (.int .u8 b.kind), .val (.int .u8 b.oper), .val (.int .u8 b.typ), .val (.int .i64 b.n), .val (.int .u8 b.field), .val (.string b.name), .slice .ro (flat b.kids) b.kids.length, .val (.int .i64 b.pos), .val (.int .u8 c.kind), .val (.int .u8 c.oper), .val (.int .u8 c.typ), .val (.int .i64 c.n), .val (.int .u8 c.field), .val (.string c.name), .slice .ro (flat c.kids) c.kids.length, .val (.int .i64 c.pos)] 3, .val (.int .i64 0)] = (Nd.mk k o t 0 0 (ByteArray.mk #[]) [a, b, c] 0).av := by
  unfold Nd.av Nd.cells
  rw [show flat [a, b, c] = a.cells ++ (b.cells ++ (c.cells ++ [])) by rw [flat_cons, flat_cons, flat_cons, flat_nil]]
  rfl
theorem exprW_mk {d : Nd} (h1 : oneB d = true) (h2 : ∀ k ∈ d.kids, k.formed = true) : exprW d = (d.weight : Int) := by
  have : d.formed = true := by
    rw [formed_all, h1, Bool.true_and, List.all_eq_true]
    exact h2
  unfold exprW
  rw [this]; rfl
theorem beq_of {x y : Int} (h : x = y) : (x == y) = true := by rw [h]; simp
/-- CostParts, over awake. -/
theorem g16 (ha : ∀ st, Good Tryz.prog 52 [] st (.ret (.val (.bool true))) st) (a b c : Nd) (fa : a.fit = true) (fb : b.fit = true) (fc : c.fit = true) (st : St) : Good Tryz.prog 16 [a.av, b.av, c.av] st (.ret (.val (.bool true))) st := by
  refine gd Tryz.func16 fok16 rfl rfl (s16 a b c st) ?_
  simp only [nd1, nd2, nd3, ndA_av]
  refine ⟨ha st, g53 a fa st, g53 b fb st, g53 c fc st, ?_⟩
  refine holds_cond.2 ⟨fun _ => ⟨rfl, rfl⟩, fun ea => ?_⟩
  refine holds_cond.2 ⟨fun _ => ⟨rfl, rfl⟩, fun eb => ?_⟩
  refine holds_cond.2 ⟨fun _ => ⟨rfl, rfl⟩, fun ec => ?_⟩
  have ma := near (of_decide_eq_false ea)
  have mb := near (of_decide_eq_false eb)
  have mc := near (of_decide_eq_false ec)
  refine ⟨g56 st a (by omega), holds_cond.2 ⟨fun oa => ?_, fun _ => ⟨rfl, rfl⟩⟩⟩
  refine ⟨g56 st b (by omega), holds_cond.2 ⟨fun ob => ?_, fun _ => ⟨rfl, rfl⟩⟩⟩
  refine ⟨g56 st c (by omega), holds_cond.2 ⟨fun _ => ⟨rfl, rfl⟩, fun oc => ?_⟩⟩
  have oc : c.formed = true := by simpa using oc
  have z : (ByteArray.mk #[]).size = 0 := rfl
  refine ⟨g54 a (by omega) st, g54 b (by omega) st, g54 c (by omega) st, g54 _ (by rw [Nd.mass_eq]; simp [z]; omega) st, g54 _ (by rw [Nd.mass_eq]; simp [z]; omega) st, g54 _ (by rw [Nd.mass_eq]; simp [z]; omega) st, g54 _ (by rw [Nd.mass_eq]; simp [z]; omega) st,
    g54 _ (by rw [Nd.mass_eq]; simp [z]; omega) st, g54 _ (by rw [Nd.mass_eq]; simp [z]; omega) st, ?_⟩
  have wa := weight_le a; have wb := weight_le b; have wc := weight_le c
  have sa := size_mass a; have sb := size_mass b; have sc := size_mass c
  have pa := weight_pos a oa
  have e1 : exprW a = (a.weight : Int) := by unfold exprW; rw [oa]; rfl
  have e2 : exprW b = (b.weight : Int) := by unfold exprW; rw [ob]; rfl
  have e3 : exprW c = (c.weight : Int) := by unfold exprW; rw [oc]; rfl
  have k1 : exprW ⟨7, 0, 0, 0, 0, ByteArray.mk #[], [a, b, c], 0⟩ = ((a.weight + max b.weight c.weight + 2 : Nat) : Int) := by
    rw [exprW_mk (by simp [oneB, noName, nil_list]) (by simp [oa, ob, oc]), Nd.weight_eq]; rfl
  have k2 : exprW ⟨7, 0, 0, 0, 0, ByteArray.mk #[], [a, c, b], 0⟩ = ((a.weight + max c.weight b.weight + 2 : Nat) : Int) := by
    rw [exprW_mk (by simp [oneB, noName, nil_list]) (by simp [oa, ob, oc]), Nd.weight_eq]; rfl
  have k3 : exprW ⟨6, 17, 0, 0, 0, ByteArray.mk #[], [a, b], 0⟩ = ((1 + (a.weight + b.weight) : Nat) : Int) := by
    rw [exprW_mk (by simp [oneB, noName, nil_list]) (by simp [oa, ob]), Nd.weight_eq]; simp
  have k4 : exprW ⟨8, 4, 0, 0, 0, ByteArray.mk #[], [b, c], 0⟩ = ((1 + (b.weight + c.weight) : Nat) : Int) := by
    rw [exprW_mk (by simp [oneB, noName, nil_list]) (by simp [ob, oc]), Nd.weight_eq]; simp
  have k5 : exprW ⟨5, 2, 0, 0, 0, ByteArray.mk #[], [a], 0⟩ = ((1 + a.weight : Nat) : Int) := by
    rw [exprW_mk (by simp [oneB, noName, nil_list]) (by simp [oa]), Nd.weight_eq]; simp
  have k6 : exprW ⟨9, 0, 1, 0, 0, ByteArray.mk #[], [a], 0⟩ = (a.weight : Int) := by
    rw [exprW_mk (by simp [oneB, noName, nil_list]) (by simp [oa]), Nd.weight_eq]; simp
  have u1 : ∀ x y : Nat, x ≤ 16777216 → y ≤ 16777216 → ∀ n : Int, 0 ≤ n → n ≤ 2 → IntKind.i64.wrap (IntKind.i64.wrap ((x : Int) + (y : Int)) + n) = (x : Int) + (y : Int) + n := fun x y hx hy n hn hn' => by
    rw [wr ((x : Int) + (y : Int)) (by omega), wr _ (by omega)]
  have u2 : IntKind.i64.wrap ((a.weight : Int) + 1) = (a.weight : Int) + 1 := wr _ (by omega)
  simp only [e1, e2, e3, k1, k2, k3, k4, k5, k6, u2, u1 a.weight b.weight (by omega) (by omega) 2 (by omega) (by omega), u1 a.weight c.weight (by omega) (by omega) 2 (by omega) (by omega), u1 a.weight b.weight (by omega) (by omega) 1 (by omega) (by omega), u1 b.weight c.weight (by omega) (by omega) 1 (by omega) (by omega)]
  have q1 : decide ((a.weight : Int) > 0) = true := decide_eq_true (by omega)
  have q2 : ((((a.weight + max c.weight b.weight + 2 : Nat) : Int)) == ((a.weight + max b.weight c.weight + 2 : Nat) : Int)) = true := beq_of (by omega)
  have q3 : ((((1 + (a.weight + b.weight) : Nat) : Int)) == (a.weight : Int) + (b.weight : Int) + 1) = true := beq_of (by omega)
  have q4 : ((((1 + (b.weight + c.weight) : Nat) : Int)) == (b.weight : Int) + (c.weight : Int) + 1) = true := beq_of (by omega)
  have q5 : ((((1 + a.weight : Nat) : Int)) == (a.weight : Int) + 1) = true := beq_of (by omega)
  refine holds_cond.2 ⟨fun h => ?_, fun h => ?_⟩
  · have h := of_decide_eq_true h
    have q6 : ((((a.weight + max b.weight c.weight + 2 : Nat) : Int)) == (a.weight : Int) + (c.weight : Int) + 2) = true := beq_of (by omega)
    simp only [q1, q2, q3, q4, q5, q6, cond_true, beq_self_eq_true]
    exact ⟨rfl, rfl⟩
  · have h := of_decide_eq_false h
    have q6 : ((((a.weight + max b.weight c.weight + 2 : Nat) : Int)) == (a.weight : Int) + (b.weight : Int) + 2) = true := beq_of (by omega)
    simp only [q1, q2, q3, q4, q5, q6, cond_true, beq_self_eq_true]
    exact ⟨rfl, rfl⟩
end Go.Proofs.YtknocbhocdenoaaGreatDoor
