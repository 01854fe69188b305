/-
  SuperNone: without drives, a coder, a slot or a head there is none: for every head and every slot the law returns true; the input reads as it did.
  By an abstract run of the program's code (the texts YthlijlhfhlbehaaGreatZy..: the abstract machine and its soundness), at symbolic arguments.
-/
import Derived.Test.YthlijlhfhlbehaaGreatSnLaw
import Derived.Test.YthlijlhfhlbehaaGreatSnFacts
import Derived.JoinedOf
namespace Go.Proofs.YthlijlhfhlbehaaGreat
set_option maxRecDepth 1000000
set_option maxHeartbeats 0

theorem superNone_holds : Rows.SuperNoneSaid :=
  OpenClaim.holds_of_wide 9 Tryz.f9 rfl rfl rfl rfl rfl rfl rfl ⟨rfl, rfl, rfl, rfl, rfl⟩ rfl rfl rfl rfl rfl (by kernel_rfl) Tryz.func9 superNone_closed
    (of_decide_eq_true (by kernel_rfl)) (by unfold Func.isWrapper; first | (rw [if_pos (by decide +kernel)]; kernel_rfl) | (rw [if_neg (by decide +kernel)]; exact ⟨rfl, rfl⟩))
    (fun os started H enc _ => lifted os started H enc)
end Go.Proofs.YthlijlhfhlbehaaGreat
