/- The row of CostParts: for every three expressions the law returns true, its arguments read as they did; and its tied card. -/
import Derived.Test.YtknocbhocdenoaaGreatDoorBcB
import Derived.Test.YtknocbhocdenoaaGreatDoorBcH
import Derived.Test.YtknocbhocdenoaaGreatDoorBcE
import Derived.Test.YtknocbhocdenoaaGreatDoorBcF
import Derived.Test.YtknocbhocdenoaaGreatDoorBbL
import Derived.Test.YtknocbhocdenoaaGreatDoorCards
import Derived.Test.YtknocbhocdenoaaGreatDoorTie
import Derived.SevenTiedAt
namespace Go.Proofs.YtknocbhocdenoaaGreatDoor
open Go Go.ChangeShapes Go.WideShapes Go.RowKit

set_option maxRecDepth 100000 in
theorem costParts_lifted (os : Os) (started : os.Started) (H : Type) (enc : TypeId × Value → H) :
    ReturnsInHanded {} Tryz.checked os 16 .any (fun w args => (Rows.costPartsSpec.pre enc Tryz.prog Tryz.f16 [] false w args ∧ laidMetH Tryz.prog laidE w) ∧ sizedMet enc Tryz.prog Tryz.f16 (OpenSpec.ofChange Rows.costPartsSpec) false w args)
      (Rows.costPartsSpec.post enc Tryz.prog Tryz.f16 false true false false) := by
  refine returnsInHanded_of_change_and (C := Tryz.checked) (X := fun w _ => laidMetH Tryz.prog laidE w) (fun _ _ _ hh h => h.of_heap hh) own started (by kernel_rfl) Tryz.func16
    (ChangeSpec.witness_at (enc := enc) (C := Tryz.checked) (os := os) (X := fun w _ => laidMetH Tryz.prog laidE w) false (laidWorld os) #[.agg #[.int .u8 0, .int .u8 0, .int .u8 0, .int .i64 0, .int .u8 0, .string ⟨#[]⟩, .slice none 0 0, .int .i64 0], .agg #[.int .u8 0, .int .u8 0, .int .u8 0, .int .i64 0, .int .u8 0, .string ⟨#[]⟩, .slice none 0 0, .int .i64 0], .agg #[.int .u8 0, .int .u8 0, .int .u8 0, .int .i64 0, .int .u8 0, .string ⟨#[]⟩, .slice none 0 0, .int .i64 0]] 8 rfl (by kernel_rfl) (by kernel_rfl) (by kernel_rfl) (by kernel_rfl) (by kernel_rfl) (laidWorld_met os _)) ?_
  intro W base args ds gs before hval0 hW _ hsz hL _
  have hval : ∀ (j : Nat) t v, Tryz.f16.params[j]? = some t → args[j]? = some v → Value.okWide Tryz.prog W .any base t v := hval0
  have hW' := hW
  obtain ⟨p, q, hA0, hV, rfl, hfz, hnd⟩ := hW
  obtain ⟨rfl, rfl⟩ := trodVars_none hV
  have hA : DataW.TrodAll enc Tryz.prog W 0 (fun _ => true) true Tryz.f16.params.toList args.toList ds p := hA0
  rw [Tryz.params16] at hA hval
  obtain ⟨v0, v1, v2, d0, d1, d2, p0, p1, p2, rfl, rfl, hp, h0, h1, h2⟩ := trodAll_three hA
  have hw : (DataW.weightsEach Tryz.prog [35, 35, 35] [d0, d1, d2]).all (· ≤ reachBytes) = true := by
    rw [← List.append_nil [d0, d1, d2]]
    exact hsz
  simp only [DataW.weightsEach, List.all_append, Bool.and_eq_true, List.append_nil] at hw
  obtain ⟨a, ha, fa⟩ := open_node (hval 0 35 v0 rfl rfl) h0 hw.1
  obtain ⟨b, hb, fb⟩ := open_node (hval 1 35 v1 rfl rfl) h1 hw.2.1
  obtain ⟨c, hc, fc⟩ := open_node (hval 2 35 v2 rfl rfl) h2 hw.2.2
  refine (good_law Tryz.func16 rfl rfl hL (.cons ha (.cons hb (.cons hc (.nil _)))) (g16 (fun st => g52 st) a b c fa fb fc ⟨[], []⟩)).mono fun e W' ⟨he, hb⟩ => ?_
  exact ⟨_, he, post_true rfl rfl (by rw [Tryz.params16]; decide) hW' hb rfl⟩

theorem f16_place : ((Rows.costPartsRow.inPlace == Tryz.prog.inPlace 16) : Bool) = true := by kernel_rfl
theorem f16_unfollowed : ((Rows.costPartsRow.unfollowed == Tryz.prog.unfollowed 16) : Bool) = true := by kernel_rfl
theorem f16_recurses : ((Rows.costPartsRow.recurses == Tryz.prog.recurses 16) : Bool) = true := by kernel_rfl
theorem f16_named : ((Rows.costPartsRow.named == Tryz.prog.varsNamed 16) : Bool) = true := by kernel_rfl
theorem f16_joined : joinedFacts Tryz.prog 16 Tryz.f16 Rows.costPartsSpec Rows.costPartsRow = true :=
  joined_of (by kernel_rfl) (by kernel_rfl) (by kernel_rfl) rfl rfl f16_place f16_unfollowed f16_recurses f16_named (by kernel_rfl) (by kernel_rfl) (by kernel_rfl) (by kernel_rfl) (by kernel_rfl) (by kernel_rfl) (by kernel_rfl) (by kernel_rfl) (by kernel_rfl) p_k22 (by kernel_rfl) p_k24b p_k24c rfl rfl (by kernel_rfl) (by kernel_rfl) (by kernel_rfl)
theorem f16_func : Tryz.prog.funcNamed "tripwire/tripwirelaw16.CostParts" = some 16 := by kernel_rfl
theorem costParts_holds : Rows.CostPartsSaid :=
  OpenClaim.holds_of_wide 16 Tryz.f16 rfl rfl rfl rfl rfl rfl rfl ⟨rfl, rfl, rfl, rfl, rfl⟩ rfl rfl rfl rfl rfl f16_func Tryz.func16 f16_joined
    (of_decide_eq_true (by kernel_rfl)) (by unfold Func.isWrapper; rw [if_neg (of_decide_eq_false (by kernel_rfl))]; exact ⟨rfl, rfl⟩)
    (fun os started H enc _ => costParts_lifted os started H enc)

theorem f16_goes : false = Rows.costPartsRow.goesBy Tryz.pinned.checked.prog := by kernel_rfl
theorem f16_wf : Rows.costPartsRow.wfByText (OpenSpec.ofChange Rows.costPartsSpec) = true := by kernel_rfl
theorem costParts_card : Rows.CostPartsCardSaid :=
  Claim7.holds_tied_plain_at .later [] [.handle] true (true, "9abeb16d8adb9a1320dcc905a9192c230b8dbeb117e6934aeee7d1c6e9696810") true
    costParts_holds (fun _ h => by cases h) f16_wf (fun _ h => by cases h) costParts_row_tie rfl ⟨rfl, rfl⟩ p_main rfl
    (fun f fn hf hfn => by
      obtain rfl : f = 16 := Option.some.inj (f16_func.symm.trans hf) |>.symm
      obtain rfl : fn = Tryz.f16 := (Option.some.inj (Tryz.func16.symm.trans hfn)).symm
      exact ⟨p_looks, fun j t ht => by
        rw [Tryz.params16] at ht
        have h3 : t = 35 := by
          rcases j with _ | _ | _ | j
          · simpa using ht.symm
          · simpa using ht.symm
          · simpa using ht.symm
          · simp at ht
        subst h3
        exact p_node⟩)
    f16_goes
#print axioms costParts_card
end Go.Proofs.YtknocbhocdenoaaGreatDoor
