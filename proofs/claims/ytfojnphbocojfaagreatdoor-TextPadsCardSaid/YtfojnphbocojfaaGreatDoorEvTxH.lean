/- The text seat: the head of the law. -/
import Derived.Test.YtfojnphbocojfaaGreatDoorEvTx2q
import Derived.Test.YtfojnphbocojfaaGreatDoorEvFn
set_option linter.all false
set_option linter.unusedVariables false
set_option linter.unusedSimpArgs false
namespace Go.Ev
open Go Go.RowKit Go.Proofs
attribute [local irreducible] evFn Tryz.prog

theorem tx_head_true : allTrue 10 (evFn Tryz.prog txCfg 90 4 [] {}) = true := by kernel_rfl

def headC : List V → Option V
  | [] => some (.bool true)
  | _ => none

theorem has4 (B : Nat) : letI := txGlob B; Has Tryz.prog 4 (Ext.val headC).out := by
  letI := txGlob B
  refine Has.val (tx_ok B) 90 ⟨_, Tryz.func4, rfl⟩ fun args v h => ?_
  unfold headC at h
  split at h
  · simp only [Option.some.injEq] at h
    subst h
    refine ⟨rfl, Out.all_mono (fun v _ hv => ?_) (fun _ _ h => h) _ (allTrue_spec 10 _ tx_head_true)⟩
    rw [hv]; exact ⟨rfl, rfl⟩
  · simp at h
end Go.Ev
