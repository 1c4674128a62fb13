/- Part 8 of the proof: OverlayNil returns true at every operation and leaves its argument as it was (the tied card, no condition). -/
import Derived.KernelRfl
import Derived.Test.YtjamfnaepkheeaaGreatDoorB06
import Derived.Test.YtjamfnaepkheeaaGreatDoorB02

/- All functions' texts are of the interpreter's kind. (Written by mkgood.py.) -/
namespace Go.Proofs.AeT
open Go Go.AE
noncomputable section
def fnsB (c : Cfg) (a b : Nat) : Bool := (List.range (b - a)).all fun i => fnOkB c (a + i)
theorem fnsB_of {c : Cfg} {a b : Nat} (h : fnsB c a b = true) : ∀ f, a ≤ f → f < b → fnOkB c f = true := by
  intro f h1 h2
  have := List.all_eq_true.1 h (f - a) (List.mem_range.2 (by omega))
  rwa [show a + (f - a) = f by omega] at this
theorem fns0 : fnsB cfg 0 60 = true := by kernel_rfl
theorem fns60 : fnsB cfg 60 120 = true := by kernel_rfl
theorem fns120 : fnsB cfg 120 180 = true := by kernel_rfl
theorem fns180 : fnsB cfg 180 240 = true := by kernel_rfl
theorem fns240 : fnsB cfg 240 300 = true := by kernel_rfl
theorem fns300 : fnsB cfg 300 360 = true := by kernel_rfl
theorem fns360 : fnsB cfg 360 407 = true := by kernel_rfl
theorem fnsAll : ∀ f, f < cfg.P.funcs.size → fnOkB cfg f = true := by
  intro f hf
  have hn : cfg.P.funcs.size = 407 := by kernel_rfl
  rw [hn] at hf
  by_cases h60 : f < 60
  · exact fnsB_of fns0 f (by omega) h60
  by_cases h120 : f < 120
  · exact fnsB_of fns60 f (by omega) h120
  by_cases h180 : f < 180
  · exact fnsB_of fns120 f (by omega) h180
  by_cases h240 : f < 240
  · exact fnsB_of fns180 f (by omega) h240
  by_cases h300 : f < 300
  · exact fnsB_of fns240 f (by omega) h300
  by_cases h360 : f < 360
  · exact fnsB_of fns300 f (by omega) h360
  exact fnsB_of fns360 f (by omega) hf
theorem typesOk : WFP cfg.P := wfp_of (by kernel_rfl)
theorem funcsOk : WFF cfg (drawOk cfg) := wff_of fnsAll
theorem drawOk_eq : drawOk cfg0 = drawOk cfg := by kernel_rfl
theorem funcsOk0 : WFF cfg0 (drawOk cfg0) := by
  rw [drawOk_eq]
  exact ⟨funcsOk.code, funcsOk.name⟩
theorem mixedOk0 : cfg0.P.follows .mixedOrders = true := by kernel_rfl
theorem typesOk0 : WFP cfg0.P := wfp_of (by kernel_rfl)
theorem mixedOk : cfg.P.follows .mixedOrders = true := by kernel_rfl
end
end Go.Proofs.AeT
