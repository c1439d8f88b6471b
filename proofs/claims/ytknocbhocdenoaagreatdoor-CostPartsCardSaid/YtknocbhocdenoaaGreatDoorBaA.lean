/- The language's data in plain Lean: expressions and strategies; their cells in the abstract machine; what is read back from cells. -/
import Derived.Test.YtknocbhocdenoaaGreatDoorAwZ
namespace Go.Proofs.YtknocbhocdenoaaGreatDoor
open Go Go.RowKit

/-- api.Node. -/
structure Nd where
  kind : Int
  oper : Int
  typ : Int
  n : Int
  field : Int
  name : ByteArray
  kids : List Nd
  pos : Int
instance : Inhabited Nd := ⟨⟨0, 0, 0, 0, 0, ⟨#[]⟩, [], 0⟩⟩
mutual
def Nd.cellsR : Nd → List AV
  | ⟨k, o, t, n, f, nm, ks, p⟩ => [.val (.int .u8 k), .val (.int .u8 o), .val (.int .u8 t), .val (.int .i64 n), .val (.int .u8 f), .val (.string nm), .slice .ro (flat ks) ks.length, .val (.int .i64 p)]
def flat : List Nd → List AV
  | [] => []
  | d :: ds => d.cellsR ++ flat ds
end
def Nd.cells (d : Nd) : List AV := [.val (.int .u8 d.kind), .val (.int .u8 d.oper), .val (.int .u8 d.typ), .val (.int .i64 d.n), .val (.int .u8 d.field), .val (.string d.name), .slice .ro (flat d.kids) d.kids.length, .val (.int .i64 d.pos)]
def Nd.av (d : Nd) : AV := .agg d.cells
theorem flat_nil : flat [] = [] := by simp [flat]
theorem flat_cons (d : Nd) (ds : List Nd) : flat (d :: ds) = d.cells ++ flat ds := by
  cases d; simp [flat, Nd.cellsR, Nd.cells]
theorem Nd.cells_len (d : Nd) : d.cells.length = 8 := rfl
theorem flat_eq : ∀ ds : List Nd, flat ds = ds.flatMap Nd.cells
  | [] => by simp [flat_nil]
  | d :: ds => by rw [flat_cons, List.flatMap_cons, flat_eq ds]
theorem flat_append (xs ys : List Nd) : flat (xs ++ ys) = flat xs ++ flat ys := by simp [flat_eq]

/-! ### Lists of things of so many cells -/
theorem flatMap_len {α : Type} {c : α → List AV} {k : Nat} (hk : ∀ a, (c a).length = k) : ∀ xs : List α, (xs.flatMap c).length = xs.length * k
  | [] => by simp
  | x :: xs => by rw [List.flatMap_cons, List.length_append, hk, flatMap_len hk xs, List.length_cons, Nat.add_mul]; omega
theorem flatMap_at {α : Type} {c : α → List AV} {k : Nat} (hk : ∀ a, (c a).length = k) : ∀ (xs : List α) (i : Nat) (h : i < xs.length), ((xs.flatMap c).drop (i * k)).take k = c xs[i]
  | [], i, h => by simp at h
  | x :: xs, 0, h => by
    rw [List.flatMap_cons, Nat.zero_mul, List.drop_zero, List.take_append_of_le_length (by rw [hk]; exact Nat.le_refl _), List.take_of_length_le (by rw [hk]; exact Nat.le_refl _)]; rfl
  | x :: xs, i + 1, h => by
    have e : (i + 1) * k = (c x).length + i * k := by rw [hk, Nat.add_mul]; omega
    rw [List.flatMap_cons, e, ← List.drop_drop, List.drop_left, flatMap_at hk xs i (by simpa using h)]; rfl
theorem flat_len (ds : List Nd) : (flat ds).length = ds.length * 8 := by rw [flat_eq]; exact flatMap_len Nd.cells_len ds
mutual
theorem Nd.cellsR_inj : ∀ a b : Nd, a.cellsR = b.cellsR → a = b
  | ⟨k, o, t, n, f, nm, ks, p⟩, ⟨k', o', t', n', f', nm', ks', p'⟩, h => by
    simp only [Nd.cellsR, List.cons.injEq, AV.val.injEq, Value.int.injEq, Value.string.injEq, AV.slice.injEq, true_and, and_true] at h
    obtain ⟨h1, h2, h3, h4, h5, h6, ⟨h7, _⟩, h8⟩ := h
    rw [h1, h2, h3, h4, h5, h6, flat_inj ks ks' h7, h8]
theorem flat_inj : ∀ a b : List Nd, flat a = flat b → a = b
  | [], [], _ => rfl
  | [], b :: bs, h => by have := congrArg List.length h; rw [flat_len, flat_len] at this; simp at this
  | a :: xs, [], h => by have := congrArg List.length h; rw [flat_len, flat_len] at this; simp at this
  | a :: xs, b :: bs, h => by
    simp only [flat] at h
    have hl : ∀ d : Nd, d.cellsR.length = 8 := fun d => by cases d; simp [Nd.cellsR]
    have h1 := List.append_inj h (by rw [hl, hl])
    rw [Nd.cellsR_inj a b h1.1, flat_inj xs bs h1.2]
end
theorem Nd.cellsR_eq (d : Nd) : d.cellsR = d.cells := by cases d; simp [Nd.cellsR, Nd.cells]
theorem Nd.cells_inj {a b : Nd} (h : a.cells = b.cells) : a = b := Nd.cellsR_inj a b (by rw [Nd.cellsR_eq, Nd.cellsR_eq]; exact h)
/-- What a thing's cells stand for. -/
noncomputable def decC {α : Type} [Inhabited α] (c : α → List AV) (cs : List AV) : α := Classical.epsilon fun a => c a = cs
theorem decC_eq {α : Type} [Inhabited α] {c : α → List AV} (hi : ∀ a b, c a = c b → a = b) (a : α) : decC c (c a) = a :=
  hi _ _ (Classical.epsilon_spec (p := fun b => c b = c a) ⟨a, rfl⟩)
noncomputable def ndAt (cs : List AV) (off : Nat) : Nd := decC Nd.cells ((cs.drop off).take 8)
noncomputable def ndA : AV → Nd
  | .agg cs => decC Nd.cells cs
  | _ => default
theorem ndA_av (d : Nd) : ndA d.av = d := decC_eq (fun _ _ => Nd.cells_inj) d
theorem ndA_cells (d : Nd) : ndA (.agg [.val (.int .u8 d.kind), .val (.int .u8 d.oper), .val (.int .u8 d.typ), .val (.int .i64 d.n), .val (.int .u8 d.field), .val (.string d.name), .slice .ro (flat d.kids) d.kids.length, .val (.int .i64 d.pos)]) = d := ndA_av d
theorem ndA_mk (k o t n f : Int) (nm : ByteArray) (ks : List Nd) (m : Nat) (p : Int) (h : m = ks.length) : ndA (.agg [.val (.int .u8 k), .val (.int .u8 o), .val (.int .u8 t), .val (.int .i64 n), .val (.int .u8 f), .val (.string nm), .slice .ro (flat ks) m, .val (.int .i64 p)]) = ⟨k, o, t, n, f, nm, ks, p⟩ := by
  subst h; exact ndA_av ⟨k, o, t, n, f, nm, ks, p⟩
theorem ndAt_flat {ds : List Nd} {i : Nat} (h : i < ds.length) : ndAt (flat ds) (i * 8) = ds[i] := by
  unfold ndAt
  rw [flat_eq, flatMap_at Nd.cells_len ds i h]
  exact decC_eq (fun _ _ => Nd.cells_inj) _
theorem ld_node {P : Program} {t : TypeId} (hs : shp P t = some (true, 8)) {ds : List Nd} {i : Nat} (h : i < ds.length) : ld P t (flat ds) (i * 8) = some (.agg ds[i].cells) := by
  unfold ld
  rw [hs]
  simp only
  rw [if_pos (by rw [flat_len]; omega), flat_eq, flatMap_at Nd.cells_len ds i h]
mutual
theorem Nd.clnR : ∀ d : Nd, ∀ x ∈ d.cellsR, Cln x
  | ⟨k, o, t, n, f, nm, ks, p⟩, x, hx => by
    simp only [Nd.cellsR, List.mem_cons, List.not_mem_nil, or_false] at hx
    rcases hx with rfl | rfl | rfl | rfl | rfl | rfl | rfl | rfl <;> first | exact .val _ | exact .slice _ _ (flat_cln ks)
theorem flat_cln : ∀ ds : List Nd, ∀ x ∈ flat ds, Cln x
  | [], x, hx => by simp [flat] at hx
  | d :: ds, x, hx => by
    simp only [flat, List.mem_append] at hx
    rcases hx with hx | hx
    · exact Nd.clnR d x hx
    · exact flat_cln ds x hx
end
theorem Nd.cln (d : Nd) : Cln d.av := .agg _ fun x hx => Nd.clnR d x (by rw [Nd.cellsR_eq]; exact hx)
end Go.Proofs.YtknocbhocdenoaaGreatDoor
