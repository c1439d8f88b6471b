/- The interpreter, with what is known of small functions. -/
import Derived.Test.YtknocbhocdenoaaGreatDoorBbE
import Derived.Test.YtknocbhocdenoaaGreatDoorBaE
namespace Go.Proofs.YtknocbhocdenoaaGreatDoor
open Go Go.RowKit

def lexF (f : FuncId) (args : List AV) (st : St) : Option (AEnd × St) :=
  match args with
  | [.val (.int .u8 c)] =>
    bif f == 221 || f == 114 then some (.ret (.val (.bool (smallP c))), st) else
    bif f == 244 || f == 116 then some (.ret (.val (.bool (digitP c))), st) else
    bif f == 223 || f == 186 then some (.ret (.val (.bool (innerP c))), st) else none
  | [.val (.string s)] =>
    bif f == 222 || f == 185 then some (.ret (.val (.bool (wordP s))), st) else
    bif f == 195 || f == 110 then some (.ret (.val (.bool (nameP s))), st) else none
  | _ => none
theorem or_step {a b : Bool} {α : Type} {x F : α} {R : Option α} (h : (bif a || b then some x else R) = some F) : ((a = true ∨ b = true) ∧ x = F) ∨ R = some F := by
  cases hb : (a || b) with
  | true => rw [hb] at h; exact .inl ⟨by simpa using hb, by simpa using h⟩
  | false => rw [hb] at h; exact .inr h
theorem lexF_ok {f : FuncId} {args : List AV} {st st' : St} {e : AEnd} (h : lexF f args st = some (e, st')) : Good Tryz.prog f args st e st' := by
  unfold lexF at h
  split at h
  · rename_i c
    rcases or_step h with ⟨hf, h⟩ | h
    · cases h
      rcases hf with hf | hf <;> (have hf := eq_of_beq hf; subst hf)
      · exact g221 c st
      · exact g114 c st
    rcases or_step h with ⟨hf, h⟩ | h
    · cases h
      rcases hf with hf | hf <;> (have hf := eq_of_beq hf; subst hf)
      · exact g244 c st
      · exact g116 c st
    rcases or_step h with ⟨hf, h⟩ | h
    · cases h
      rcases hf with hf | hf <;> (have hf := eq_of_beq hf; subst hf)
      · exact g223 c st
      · exact g186 c st
    cases h
  · rename_i s
    rcases or_step h with ⟨hf, h⟩ | h
    · cases h
      rcases hf with hf | hf <;> (have hf := eq_of_beq hf; subst hf)
      · exact g222 s st
      · exact g185 s st
    rcases or_step h with ⟨hf, h⟩ | h
    · cases h
      rcases hf with hf | hf <;> (have hf := eq_of_beq hf; subst hf)
      · exact g195 s st
      · exact g110 s st
    cases h
  · cases h
def lexL : List Nat := [221, 114, 244, 116, 223, 186, 222, 185, 195, 110]
def prim2 (P : Program) (f : FuncId) : Option (Evl → List AV → St → Option (AEnd × St)) := bif lexL.contains f then some fun _ => lexF f else primF P f
noncomputable def cfg2 : Cfg := { cfg with prims := prim2 Tryz.prog }
theorem cfgOk2 : CfgOk Tryz.prog cfg2 where
  mixed := cfgOk.mixed
  prim := fun f F hF E hE args st e st' h => by
    have hF' : prim2 Tryz.prog f = some F := hF
    unfold prim2 at hF'
    cases hb : lexL.contains f with
    | true =>
      rw [hb] at hF'
      cases hF'
      exact lexF_ok h
    | false =>
      rw [hb] at hF'
      exact cfgOk.prim f F hF' E hE args st e st' h
  func := fun f fn hf => cfgOk.func f fn hf
mutual
def clnB : AV → Bool
  | .undef => true
  | .val _ => true
  | .rptr cs _ => clnL cs
  | .slice .ro cs _ => clnL cs
  | .slice .nil [] 0 => true
  | .iface _ a => clnB a
  | .func _ f c => clnL f && clnL c
  | .agg cs => clnL cs
  | .tuple cs => clnL cs
  | _ => false
def clnL : List AV → Bool
  | [] => true
  | a :: l => clnB a && clnL l
end
mutual
theorem clnB_ok : ∀ a : AV, clnB a = true → Cln a
  | .undef, _ => .undef
  | .val v, _ => .val v
  | .rptr cs off, h => by simp only [clnB] at h; exact .rptr _ _ (clnL_ok cs h)
  | .slice .ro cs n, h => by simp only [clnB] at h; exact .slice _ _ (clnL_ok cs h)
  | .slice .nil [] 0, _ => .nil
  | .slice .nil [] (n + 1), h => by simp [clnB] at h
  | .slice .nil (c :: cs) n, h => by simp [clnB] at h
  | .slice (.row r) cs n, h => by simp [clnB] at h
  | .iface t a, h => by simp only [clnB] at h; exact .iface _ _ (clnB_ok a h)
  | .func fn f c, h => by simp only [clnB, Bool.and_eq_true] at h; exact .func _ _ _ (clnL_ok f h.1) (clnL_ok c h.2)
  | .agg cs, h => by simp only [clnB] at h; exact .agg _ (clnL_ok cs h)
  | .tuple cs, h => by simp only [clnB] at h; exact .tuple _ (clnL_ok cs h)
  | .ptr _ _, h => by simp [clnB] at h
  | .map _, h => by simp [clnB] at h
  | .osl _ _ _ _, h => by simp [clnB] at h
theorem clnL_ok : ∀ l : List AV, clnL l = true → ∀ x ∈ l, Cln x
  | [], _ => fun x h => by simp at h
  | a :: l, h => by
    simp only [clnL, Bool.and_eq_true] at h
    have h1 := clnB_ok a h.1
    have h2 := clnL_ok l h.2
    intro x hx
    rcases List.mem_cons.1 hx with hx | hx
    · rw [hx]; exact h1
    · exact h2 x hx
end
/-- Does the interpreter answer this? -/
noncomputable def chk2 (n : Nat) (f : FuncId) (args : List AV) (v : AV) : Bool := clnL args && match evF Tryz.prog cfg2 n f args ⟨[], []⟩ with | some (.ret v1, st1) => AV.beq (v1.frz st1.mem 3) v | _ => false
theorem chk2_ok {n : Nat} {f : FuncId} {args : List AV} {v : AV} (h : chk2 n f args v = true) (st : St) : Good Tryz.prog f args st (.ret v) st := by
  unfold chk2 at h
  rw [Bool.and_eq_true] at h
  have ha := clnL_ok args h.1
  replace h := h.2
  split at h
  · rename_i v1 st1 he
    have hv := AV.beq_eq _ _ h
    subst hv
    exact good_frz (evF_ok cfgOk2 n f args ⟨[], []⟩ _ _ he) ha 3 st
  · cases h
end Go.Proofs.YtknocbhocdenoaaGreatDoor
