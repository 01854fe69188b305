/- The abstract code of SuperNone's functions is the program's; the functions without a text. -/
import Derived.Test.YthlijlhfhlbehaaGreatSnCode
import Derived.Test.YthlijlhfhlbehaaGreatZyFrame
import Derived.Test.YthlijlhfhlbehaaGreatProg
import Derived.KernelRfl
namespace Go.Zy.S
open Go.Proofs
set_option maxRecDepth 10000000
set_option maxHeartbeats 0
theorem ok0 : okL Tryz.prog c0 = true := by kernel_rfl
theorem ok1 : okL Tryz.prog c1 = true := by kernel_rfl
theorem ok2 : okL Tryz.prog c2 = true := by kernel_rfl
theorem ok3 : okL Tryz.prog c3 = true := by kernel_rfl
theorem ok4 : okL Tryz.prog c4 = true := by kernel_rfl
theorem ok5 : okL Tryz.prog c5 = true := by kernel_rfl
theorem ok6 : okL Tryz.prog c6 = true := by kernel_rfl
theorem ok7 : okL Tryz.prog c7 = true := by kernel_rfl
theorem ok8 : okL Tryz.prog c8 = true := by kernel_rfl
theorem ok9 : okL Tryz.prog c9 = true := by kernel_rfl
theorem ok10 : okL Tryz.prog c10 = true := by kernel_rfl
theorem ok11 : okL Tryz.prog c11 = true := by kernel_rfl
theorem ok12 : okL Tryz.prog c12 = true := by kernel_rfl
theorem ok13 : okL Tryz.prog c13 = true := by kernel_rfl
theorem ok14 : okL Tryz.prog c14 = true := by kernel_rfl
theorem ok15 : okL Tryz.prog c15 = true := by kernel_rfl
theorem ok16 : okL Tryz.prog c16 = true := by kernel_rfl
theorem okAll : okL Tryz.prog cs = true := okL_append ok0 (okL_append ok1 (okL_append ok2 (okL_append ok3 (okL_append ok4 (okL_append ok5 (okL_append ok6 (okL_append ok7 (okL_append ok8 (okL_append ok9 (okL_append ok10 (okL_append ok11 (okL_append ok12 (okL_append ok13 (okL_append ok14 (okL_append ok15 (ok16))))))))))))))))
theorem lists : tab.list 1 0 = cs := by kernel_rfl
theorem hT : ∀ fid F, T fid = some F → funcOk Tryz.prog fid F.vm F = true := table_ok lists okAll
theorem x325 : ExtFact Tryz.prog 325 (.load .u32) := ⟨_, Tryz.func325, by kernel_rfl, by kernel_rfl, by kernel_rfl, by show Extern.find Tryz.f325 = some (Extern.Atomic.loadT (.int .u32)); kernel_rfl⟩
theorem x334 : ExtFact Tryz.prog 334 (.store) := ⟨_, Tryz.func334, by kernel_rfl, by kernel_rfl, by kernel_rfl, by show Extern.find Tryz.f334 = some (Extern.Atomic.storeT); kernel_rfl⟩
theorem x337 : ExtFact Tryz.prog 337 (.mark0) := ⟨_, Tryz.func337, by kernel_rfl, by kernel_rfl, by kernel_rfl, ⟨Mark.disable, by show Extern.find Tryz.f337 = some (fun _ => do mark Mark.disable; pure Extern.Race.none_); kernel_rfl⟩⟩
theorem x338 : ExtFact Tryz.prog 338 (.cas .i32) := ⟨_, Tryz.func338, by kernel_rfl, by kernel_rfl, by kernel_rfl, by show Extern.find Tryz.f338 = some (Extern.Atomic.casT (.int .i32)); kernel_rfl⟩
theorem x339 : ExtFact Tryz.prog 339 (.mark0) := ⟨_, Tryz.func339, by kernel_rfl, by kernel_rfl, by kernel_rfl, ⟨Mark.enable, by show Extern.find Tryz.f339 = some (fun _ => do mark Mark.enable; pure Extern.Race.none_); kernel_rfl⟩⟩
theorem x340 : ExtFact Tryz.prog 340 (.marked) := ⟨_, Tryz.func340, by kernel_rfl, by kernel_rfl, by kernel_rfl, ⟨.acquire, by show Extern.find Tryz.f340 = some (Extern.Race.marked .acquire); kernel_rfl⟩⟩
theorem x342 : ExtFact Tryz.prog 342 (.marked) := ⟨_, Tryz.func342, by kernel_rfl, by kernel_rfl, by kernel_rfl, ⟨.releaseMerge, by show Extern.find Tryz.f342 = some (Extern.Race.marked .releaseMerge); kernel_rfl⟩⟩
theorem x343 : ExtFact Tryz.prog 343 (.add .i32) := ⟨_, Tryz.func343, by kernel_rfl, by kernel_rfl, by kernel_rfl, by show Extern.find Tryz.f343 = some (Extern.Atomic.update (Op.intArith .add) .i32 true); kernel_rfl⟩
theorem hX : ∀ f x, X f = some x → ExtFact Tryz.prog f x := by
  intro f x h
  unfold X at h
  by_cases e325 : Nat.beq f 325 = true
  · rw [e325] at h; cases h; rw [Nat.eq_of_beq_eq_true e325]; exact x325
  rw [Bool.not_eq_true] at e325
  rw [e325] at h
  by_cases e334 : Nat.beq f 334 = true
  · rw [e334] at h; cases h; rw [Nat.eq_of_beq_eq_true e334]; exact x334
  rw [Bool.not_eq_true] at e334
  rw [e334] at h
  by_cases e337 : Nat.beq f 337 = true
  · rw [e337] at h; cases h; rw [Nat.eq_of_beq_eq_true e337]; exact x337
  rw [Bool.not_eq_true] at e337
  rw [e337] at h
  by_cases e338 : Nat.beq f 338 = true
  · rw [e338] at h; cases h; rw [Nat.eq_of_beq_eq_true e338]; exact x338
  rw [Bool.not_eq_true] at e338
  rw [e338] at h
  by_cases e339 : Nat.beq f 339 = true
  · rw [e339] at h; cases h; rw [Nat.eq_of_beq_eq_true e339]; exact x339
  rw [Bool.not_eq_true] at e339
  rw [e339] at h
  by_cases e340 : Nat.beq f 340 = true
  · rw [e340] at h; cases h; rw [Nat.eq_of_beq_eq_true e340]; exact x340
  rw [Bool.not_eq_true] at e340
  rw [e340] at h
  by_cases e342 : Nat.beq f 342 = true
  · rw [e342] at h; cases h; rw [Nat.eq_of_beq_eq_true e342]; exact x342
  rw [Bool.not_eq_true] at e342
  rw [e342] at h
  by_cases e343 : Nat.beq f 343 = true
  · rw [e343] at h; cases h; rw [Nat.eq_of_beq_eq_true e343]; exact x343
  rw [Bool.not_eq_true] at e343
  rw [e343] at h
  cases h
end Go.Zy.S
