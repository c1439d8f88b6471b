/- A body with nothing open over calls that are known: awake of law 16. -/
import Derived.Test.YtknocbhocdenoaaGreatDoorBaW
namespace Go.Proofs.YtknocbhocdenoaaGreatDoor
open Go Go.RowKit

def evB (P : Program) (C : Cfg) (E : Evl) (n : Nat) (f : FuncId) (args : List AV) (st : St) : Option (AEnd × St) :=
  match P.funcs[f]? with
  | some fn => match fn.body with
    | some c => match evC P E (C.tr f) n c (fr0 fn args (C.objs f) (C.froz f)) st with
      | some (.normal, fr, st') => (resF P fn fr st').map fun v => (.ret v, st')
      | some (.ret, fr, st') => (resF P fn fr st').map fun v => (.ret v, st')
      | some (.panic v, _, st') => some (.panic v, st')
      | _ => none
    | none => none
  | none => none
theorem evB_ok {P : Program} {C : Cfg} (hC : CfgOk P C) {E : Evl} (hE : Sound P E) {n : Nat} {f : FuncId} {args : List AV} {st st' : St} {e : AEnd} (h : evB P C E n f args st = some (e, st')) : Good P f args st e st' := by
  unfold evB at h
  split at h
  · rename_i fn hf
    have hok := hC.func f fn hf
    unfold funcOk at hok
    rw [Bool.and_eq_true] at hok
    obtain ⟨hn, hco⟩ := hok
    have hn' : (fn.name == "runtime.NumGoroutine") = false := by simpa [nameOk] using hn
    split at h
    · rename_i c hb
      rw [hb] at hco
      refine good_of hf hb hn' (C.objs f) (C.froz f) ?_
      have go := evC_ok hC.mixed hE (T := C.tr f) (m := n) c hco (FnK P fn (Lv st st' e)) (fun _ _ _ _ h => h) (fr0 fn args (C.objs f) (C.froz f)) st
      split at h
      · rename_i fr s1 hr
        rw [Option.map_eq_some_iff] at h
        obtain ⟨v, hv, he⟩ := h
        cases he
        exact go _ hr ⟨v, hv, .refl _ _ _⟩
      · rename_i fr s1 hr
        rw [Option.map_eq_some_iff] at h
        obtain ⟨v, hv, he⟩ := h
        cases he
        exact go _ hr ⟨v, hv, .refl _ _ _⟩
      · rename_i v fr s1 hr
        cases h
        exact go _ hr (.refl _ _ _)
      · cases h
    · cases h
  · cases h
abbrev Tbl := List (Nat × (List AV × AV))
def tblE : Tbl → Evl
  | [], _, _, _ => none
  | (g, ys, v) :: r, f, args, st => bif f == g && AV.beqL ys args then some (.ret v, st) else tblE r f args st
def TblOk : Tbl → Prop
  | [] => True
  | (g, ys, v) :: r => (∀ st, Good Tryz.prog g ys st (.ret v) st) ∧ TblOk r
theorem tblE_ok : ∀ {t : Tbl}, TblOk t → Sound Tryz.prog (tblE t)
  | [], _, f, args, st, e, st', h => by cases h
  | (g, ys, v) :: r, ht, f, args, st, e, st', h => by
    unfold tblE at h
    cases hb : (f == g && AV.beqL ys args) with
    | true =>
      rw [hb] at h
      cases h
      rw [Bool.and_eq_true] at hb
      rw [eq_of_beq hb.1, ← AV.beqL_eq _ _ hb.2]
      exact ht.1 st
    | false =>
      rw [hb] at h
      exact tblE_ok ht.2 f args st e st' h
noncomputable def chkT (t : Tbl) (n : Nat) (f : FuncId) (args : List AV) (v : AV) : Bool := clnL args && match evB Tryz.prog cfg (tblE t) n f args ⟨[], []⟩ with | some (.ret v1, st1) => AV.beq (v1.frz st1.mem 3) v | _ => false
theorem chkT_ok {t : Tbl} (ht : TblOk t) {n : Nat} {f : FuncId} {args : List AV} {v : AV} (h : chkT t n f args v = true) (st : St) : Good Tryz.prog f args st (.ret v) st := by
  unfold chkT at h
  rw [Bool.and_eq_true] at h
  have ha := clnL_ok args h.1
  replace h := h.2
  split at h
  · rename_i v1 st1 he
    have hv := AV.beq_eq _ _ h
    subst hv
    exact good_frz (evB_ok cfgOk (tblE_ok ht) he) ha 3 st
  · cases h
def tbl52 : Tbl := [(44, aw52_A0, aw52_R0), (28, aw52_A1, aw52_R1), (54, aw52_A2, aw52_R2), (54, aw52_A3, aw52_R3), (63, aw52_A4, aw52_R4), (60, aw52_A5, aw52_R5), (60, aw52_A6, aw52_R6)]
theorem tbl52_ok : TblOk tbl52 := ⟨aw52_0, aw52_1, aw52_2, aw52_3, aw52_4, aw52_5, aw52_6, trivial⟩
/-- awake of law 16. -/
theorem g52 (st : St) : Good Tryz.prog 52 [] st (.ret (.val (.bool true))) st := chkT_ok (n := 100) tbl52_ok (by kernel_rfl) st
end Go.Proofs.YtknocbhocdenoaaGreatDoor
