/- A node of the language, out of a row's reading of its arguments. -/
import Derived.Test.YtknocbhocdenoaaGreatDoorBcA
namespace Go.Proofs.YtknocbhocdenoaaGreatDoor
open Go Go.ChangeShapes Go.WideShapes Go.RowKit
section
variable {H : Type} {enc : TypeId × Value → H}
theorem all_append {l l' : List Nat} {p : Nat → Bool} (h : (l ++ l').all p = true) : l.all p = true ∧ l'.all p = true := by
  simpa [List.all_append] using h
theorem weightsAll_get {P : Program} {e : TypeId} {p : Nat → Bool} : ∀ {ds : List (DataW H)}, (DataW.weightsAll P e ds).all p = true → ∀ d ∈ ds, (d.weights P e).all p = true
  | [], _, d, hd => by cases hd
  | x :: r, h, d, hd => by
    rw [DataW.weightsAll] at h
    obtain ⟨h1, h2⟩ := all_append h
    rcases List.mem_cons.1 hd with rfl | hd
    · exact h1
    · exact weightsAll_get h2 d hd
set_option maxRecDepth 100000 in
theorem bytes_node : Tryz.prog.bytesOf 35 = 72 := by kernel_rfl
theorem cells_node : Tryz.prog.cellsOf 35 = 8 := by kernel_rfl
theorem co29 : Tryz.prog.cellsOf 29 = 1 := by kernel_rfl
theorem co30 : Tryz.prog.cellsOf 30 = 1 := by kernel_rfl
theorem co31 : Tryz.prog.cellsOf 31 = 1 := by kernel_rfl
theorem co2 : Tryz.prog.cellsOf 2 = 1 := by kernel_rfl
theorem co32 : Tryz.prog.cellsOf 32 = 1 := by kernel_rfl
theorem co9 : Tryz.prog.cellsOf 9 = 1 := by kernel_rfl
theorem co33 : Tryz.prog.cellsOf 33 = 1 := by kernel_rfl
theorem co3 : Tryz.prog.cellsOf 3 = 1 := by kernel_rfl

theorem list8 {α : Type} {l : List α} (h : l.length = 8) : ∃ a b c d e f g i, l = [a, b, c, d, e, f, g, i] := by
  rcases l with _ | ⟨a, _ | ⟨b, _ | ⟨c, _ | ⟨d, _ | ⟨e, _ | ⟨f, _ | ⟨g, _ | ⟨i, _ | ⟨j, l⟩⟩⟩⟩⟩⟩⟩⟩⟩ <;> simp at h
  exact ⟨a, b, c, d, e, f, g, i, rfl⟩
theorem open_nd {W : World} : ∀ (n : Nat) (cs : List Value) (x : DataW H × List MemPlace), DataW.trod enc Tryz.prog W 0 (fun _ => true) true n 35 cs = some x → (x.1.weights Tryz.prog 35).all (· ≤ reachBytes) = true →
    ∃ d : Nd, Rels (S0 W) d.cells cs ∧ d.fit = true := by
  intro n
  induction n using Nat.strongRecOn with
  | ind n ih =>
  intro cs x h hw
  obtain ⟨xs, m, rfl, rfl, hl, hlen, hf⟩ := DataW.trod_struct Tryz.underlying35 h
  rw [cells_node] at hl
  have hlen' : xs.length = 8 := hlen
  clear hlen
  obtain ⟨c0, c1, c2, c3, c4, c5, c6, c7, rfl⟩ : ∃ c0 c1 c2 c3 c4 c5 c6 c7, cs = [c0, c1, c2, c3, c4, c5, c6, c7] := list8 hl
  obtain ⟨x0, x1, x2, x3, x4, x5, x6, x7, rfl⟩ : ∃ c0 c1 c2 c3 c4 c5 c6 c7, xs = [c0, c1, c2, c3, c4, c5, c6, c7] := list8 hlen'
  have f0 : DataW.trod enc Tryz.prog W 0 (fun _ => true) true m 29 (([c0, c1, c2, c3, c4, c5, c6, c7].drop 0).take (Tryz.prog.cellsOf 29)) = some x0 := hf 0 _ rfl
  have f1 : DataW.trod enc Tryz.prog W 0 (fun _ => true) true m 30 (([c0, c1, c2, c3, c4, c5, c6, c7].drop 1).take (Tryz.prog.cellsOf 30)) = some x1 := hf 1 _ rfl
  have f2 : DataW.trod enc Tryz.prog W 0 (fun _ => true) true m 31 (([c0, c1, c2, c3, c4, c5, c6, c7].drop 2).take (Tryz.prog.cellsOf 31)) = some x2 := hf 2 _ rfl
  have f3 : DataW.trod enc Tryz.prog W 0 (fun _ => true) true m 2 (([c0, c1, c2, c3, c4, c5, c6, c7].drop 3).take (Tryz.prog.cellsOf 2)) = some x3 := hf 3 _ rfl
  have f4 : DataW.trod enc Tryz.prog W 0 (fun _ => true) true m 32 (([c0, c1, c2, c3, c4, c5, c6, c7].drop 4).take (Tryz.prog.cellsOf 32)) = some x4 := hf 4 _ rfl
  have f5 : DataW.trod enc Tryz.prog W 0 (fun _ => true) true m 9 (([c0, c1, c2, c3, c4, c5, c6, c7].drop 5).take (Tryz.prog.cellsOf 9)) = some x5 := hf 5 _ rfl
  have f6 : DataW.trod enc Tryz.prog W 0 (fun _ => true) true m 33 (([c0, c1, c2, c3, c4, c5, c6, c7].drop 6).take (Tryz.prog.cellsOf 33)) = some x6 := hf 6 _ rfl
  have f7 : DataW.trod enc Tryz.prog W 0 (fun _ => true) true m 3 (([c0, c1, c2, c3, c4, c5, c6, c7].drop 7).take (Tryz.prog.cellsOf 3)) = some x7 := hf 7 _ rfl
  clear hf
  obtain ⟨n0, e0, r0, w0⟩ := DataW.trod_int Tryz.underlying29 f0
  obtain ⟨n1, e1, r1, w1⟩ := DataW.trod_int Tryz.underlying30 f1
  obtain ⟨n2, e2, r2, w2⟩ := DataW.trod_int Tryz.underlying31 f2
  obtain ⟨n3, e3, r3, w3⟩ := DataW.trod_int Tryz.underlying2 f3
  obtain ⟨n4, e4, r4, w4⟩ := DataW.trod_int Tryz.underlying32 f4
  obtain ⟨s5, e5, r5, w5⟩ := DataW.trod_string Tryz.underlying9 f5
  obtain ⟨n7, e7, r7, w7⟩ := DataW.trod_int Tryz.underlying3 f7
  simp only [co29, co30, co31, co2, co32, co9, co33, co3, List.drop_zero, List.drop_succ_cons, List.take_succ_cons, List.take_zero, List.cons.injEq, and_true] at e0 e1 e2 e3 e4 e5 e7 f6
  subst e0 e1 e2 e3 e4 e5 e7
  simp only [List.map_cons, List.map_nil, DataW.weights, Tryz.underlying35] at hw
  subst r0 r1 r2 r3 r4 r5 r7
  simp only [DataW.weightsEach, DataW.weights, List.nil_append, List.append_nil, List.cons_append, List.all_cons, Bool.and_eq_true, decide_eq_true_eq] at hw
  obtain ⟨hw5, hw6⟩ := hw
  have hs5 : s5.size ≤ 140737488355328 := by
    have : s5.data.toList.length = s5.size := rfl
    unfold reachBytes at hw5
    omega
  clear f0 f1 f2 f3 f4 f5 f7 hl hlen' h hw5
  obtain ⟨ks, hv, hk, hkf⟩ : ∃ ks : List Nd, VRel (S0 W) (.slice .ro (flat ks) ks.length) c6 ∧ ks.length ≤ 140737488355328 ∧ ∀ k ∈ ks, k.fit = true := by
    rcases DataW.trod_slice Tryz.underlying33 f6 with ⟨e, rfl⟩ | ⟨a, len, cap, elems, rest, m', e1, e2, rfl, ha, hlc, hcm, hel, hget, _, _⟩
    · obtain rfl := (List.cons.injEq _ _ _ _ ▸ e).1
      exact ⟨[], by rw [flat_nil]; exact .nil _ (fun r => nofun), by simp, fun k h => by cases h⟩
    · obtain rfl := (List.cons.injEq _ _ _ _ ▸ e2).1
      rw [cells_node] at hget
      simp only [DataW.weights, Tryz.underlying33, List.all_cons, Bool.and_eq_true, decide_eq_true_eq, bytes_node, List.length_map] at hw6
      obtain ⟨hw7, hw8⟩ := hw6
      obtain ⟨hw8, _⟩ := all_append hw8
      obtain ⟨ks, us, h1, h2, h3, h4⟩ := trod_nodes (W := W) (a := a) len fun i hi => by
        have hi' := hget i hi
        have hx : elems[i]? = some (elems[i]'(by omega)) := List.getElem?_eq_getElem _
        rw [hx, Option.bind_eq_some_iff] at hi'
        obtain ⟨cs, g1, g2⟩ := hi'
        obtain ⟨d, g3, g4⟩ := ih m' (by omega) cs _ g2 (weightsAll_get hw8 _ (List.mem_map.2 ⟨_, List.getElem_mem (by omega), rfl⟩))
        exact ⟨d, cs, g1, g3, g4⟩
      refine ⟨ks, ?_, ?_, h4⟩
      · rw [h1]
        exact .slice _ _ _ _ _ us (by simp) hlc h2.1 (fun j u hj => ⟨h3 j u hj, trivial⟩) h2.2 (fun r h => by cases h)
      · unfold reachBytes at hw7
        omega
  refine ⟨⟨n0, n1, n2, n3, n4, s5, ks, n7⟩, ?_, ?_⟩
  · exact .cons (.val _) (.cons (.val _) (.cons (.val _) (.cons (.val _) (.cons (.val _) (.cons (.val _) (.cons hv (.cons (.val _) (.nil _))))))))
  · rw [Nd.fit_eq]
    simp only [Bool.and_eq_true, decide_eq_true_eq, List.all_eq_true, List.mem_map, id]
    exact ⟨hs5, hk, fun b ⟨k, hk, e⟩ => by rw [← e]; exact hkf k hk⟩

set_option maxRecDepth 100000 in
theorem open_node {W : World} {base : Nat} {v : Value} {d : DataW H} {ps : List MemPlace} (hv : Value.okWide Tryz.prog W .any base 35 v) (h : DataW.Trod enc Tryz.prog W 0 (fun _ => true) true 35 v d ps)
    (hw : (d.weights Tryz.prog 35).all (· ≤ reachBytes) = true) : ∃ a : Nd, VRel (S0 W) a.av v ∧ a.fit = true := by
  obtain ⟨cs, rfl, hl⟩ := okWide_struct Tryz.underlying35 hv
  obtain ⟨n, hn⟩ := h
  obtain ⟨a, h1, h2⟩ := open_nd n _ _ hn hw
  exact ⟨a, .agg _ _ (by simpa [Value.cells] using h1.1) (fun j a u ha hu => h1.2 j a u ha (by simpa [Value.cells] using hu)), h2⟩
end
/-- What a contract says in the situation when the call begins. -/
theorem good_law {f : FuncId} {fn : Func} {W : World} {args : Array Value} {xs : List AV} (hfn : Tryz.prog.funcs[f]? = some fn) (hn : (fn.name == "runtime.NumGoroutine") = false) (hb : fn.body.isNone = false)
    (hL : laidMetH Tryz.prog laidE W) (hr : Rels (S0 W) xs args.toList) (hg : Good Tryz.prog f xs ⟨[], []⟩ (.ret (.val (.bool true))) ⟨[], []⟩) :
    Calls Tryz.prog f args W fun e W' => e = .returned (.bool true) ∧ Below W.heap.size W W' := by
  have hst := st0 (handle_of_laid hL)
  rcases hg with ⟨hc, hg⟩ | ⟨r, _, hx⟩
  · refine (hg (S0 W) args hst hr).mono fun e W' ⟨S', hS', hext, _, hend⟩ => ?_
    subst hS'
    cases e with
    | returned v => cases hend with | val _ => exact ⟨rfl, below_of_ext hext⟩
    | panicked c => cases hend
    | outgrown => cases hend
  · obtain ⟨v, S', h1, _⟩ := hx (S0 W) args hst hr
    rw [run_callFunc ⟨fn, hfn, hn, hb⟩] at h1
    cases h1
end Go.Proofs.YtknocbhocdenoaaGreatDoor
