/- Part 12 of the proof: OverlayNil returns true at every operation and leaves its argument as it was (the tied card, no condition). -/
import Derived.Test.YtjamfnaepkheeaaGreatDoorB08
import Derived.Test.YtjamfnaepkheeaaGreatDoorB09
import Derived.Test.YtjamfnaepkheeaaGreatDoorB10
import Derived.Test.YtjamfnaepkheeaaGreatDoorB11

/- The primitives do what the program's functions do. (Written by mkgood.py.) -/
namespace Go.Proofs.AeT
open Go Go.AE Go.Proofs
noncomputable section
theorem pk243 : PKFact Tryz.prog 243 (.add .i64) := ⟨_, Tryz.func243, by kernel_rfl, by kernel_rfl, by kernel_rfl, by show _ = _; kernel_rfl⟩
theorem pk362 : PKFact Tryz.prog 362 (.add .i32) := ⟨_, Tryz.func362, by kernel_rfl, by kernel_rfl, by kernel_rfl, by show _ = _; kernel_rfl⟩
theorem pk167 : PKFact Tryz.prog 167 (.load .i64) := ⟨_, Tryz.func167, by kernel_rfl, by kernel_rfl, by kernel_rfl, by show _ = _; kernel_rfl⟩
theorem pk335 : PKFact Tryz.prog 335 (.load .u32) := ⟨_, Tryz.func335, by kernel_rfl, by kernel_rfl, by kernel_rfl, by show _ = _; kernel_rfl⟩
theorem pk350 : PKFact Tryz.prog 350 (.store) := ⟨_, Tryz.func350, by kernel_rfl, by kernel_rfl, by kernel_rfl, by show _ = _; kernel_rfl⟩
theorem pk357 : PKFact Tryz.prog 357 (.cas .i32) := ⟨_, Tryz.func357, by kernel_rfl, by kernel_rfl, by kernel_rfl, by show _ = _; kernel_rfl⟩
theorem pk297 : PKFact Tryz.prog 297 (.same) := ⟨_, Tryz.func297, by kernel_rfl, by kernel_rfl, by kernel_rfl, by show _ = _; kernel_rfl⟩
theorem pk356 : PKFact Tryz.prog 356 (.mark0) := ⟨_, Tryz.func356, by kernel_rfl, by kernel_rfl, by kernel_rfl, ⟨.disable, by kernel_rfl⟩⟩
theorem pk358 : PKFact Tryz.prog 358 (.mark0) := ⟨_, Tryz.func358, by kernel_rfl, by kernel_rfl, by kernel_rfl, ⟨.enable, by kernel_rfl⟩⟩
theorem pk359 : PKFact Tryz.prog 359 (.mark1) := ⟨_, Tryz.func359, by kernel_rfl, by kernel_rfl, by kernel_rfl, ⟨.acquire, by kernel_rfl⟩⟩
theorem pk361 : PKFact Tryz.prog 361 (.mark1) := ⟨_, Tryz.func361, by kernel_rfl, by kernel_rfl, by kernel_rfl, ⟨.releaseMerge, by kernel_rfl⟩⟩
theorem kindOf_ok {f : Nat} {k : PK} (h : kindOf f pt.kinds = some k) : PKFact Tryz.prog f k := by
  have step : ∀ {p : Nat × PK} {r : List (Nat × PK)}, kindOf f (p :: r) = some k → (p.1 = f ∧ p.2 = k) ∨ kindOf f r = some k := by
    intro p r h
    have h' : cond (Nat.beq p.1 f) (some p.2) (kindOf f r) = some k := h
    cases hb : Nat.beq p.1 f with
    | true => rw [hb] at h'; exact .inl ⟨Nat.eq_of_beq_eq_true hb, by simpa using h'⟩
    | false => rw [hb] at h'; exact .inr h'
  rcases step h with ⟨rfl, rfl⟩ | h
  · exact pk243
  rcases step h with ⟨rfl, rfl⟩ | h
  · exact pk362
  rcases step h with ⟨rfl, rfl⟩ | h
  · exact pk167
  rcases step h with ⟨rfl, rfl⟩ | h
  · exact pk335
  rcases step h with ⟨rfl, rfl⟩ | h
  · exact pk350
  rcases step h with ⟨rfl, rfl⟩ | h
  · exact pk357
  rcases step h with ⟨rfl, rfl⟩ | h
  · exact pk297
  rcases step h with ⟨rfl, rfl⟩ | h
  · exact pk356
  rcases step h with ⟨rfl, rfl⟩ | h
  · exact pk358
  rcases step h with ⟨rfl, rfl⟩ | h
  · exact pk359
  rcases step h with ⟨rfl, rfl⟩ | h
  · exact pk361
  have h' : (none : Option PK) = some k := h
  simp at h'
theorem primsOk : PrimOK cfg := by
  intro call hC f args hp R _ hR w S β vs hHR ha hl
  change primsF cfg0 10000 pt call f args hp = some R at hR
  unfold primsF at hR
  split at hR
  · rename_i k hk
    exact primK_ok (kindOf_ok hk) hR hHR ha hl
  split at hR
  · rename_i T hT
    have step : ∀ {p : Nat × Nat} {r : List (Nat × Nat)}, cloneT f (p :: r) = some T → (p.1 = f ∧ p.2 = T) ∨ cloneT f r = some T := by
      intro p r h
      have h' : cond (Nat.beq p.1 f) (some p.2) (cloneT f r) = some T := h
      cases hb : Nat.beq p.1 f with
      | true => rw [hb] at h'; exact .inl ⟨Nat.eq_of_beq_eq_true hb, by simpa using h'⟩
      | false => rw [hb] at h'; exact .inr h'
    rcases step hT with ⟨rfl, rfl⟩ | hT
    · exact cloneRun58 hR hHR ha
    rcases step hT with ⟨rfl, rfl⟩ | hT
    · exact cloneRun93 hR hHR ha
    rcases step hT with ⟨rfl, rfl⟩ | hT
    · exact cloneRun94 hR hHR ha
    rcases step hT with ⟨rfl, rfl⟩ | hT
    · exact cloneRun99 hR hHR ha
    rcases step hT with ⟨rfl, rfl⟩ | hT
    · exact cloneRun201 hR hHR ha
    rcases step hT with ⟨rfl, rfl⟩ | hT
    · exact cloneRun229 hR hHR ha
    rcases step hT with ⟨rfl, rfl⟩ | hT
    · exact cloneRun303 hR hHR ha
    rcases step hT with ⟨rfl, rfl⟩ | hT
    · exact cloneRun304 hR hHR ha
    have h' : (none : Option Nat) = some T := hT
    simp at h'
  split at hR
  · rename_i hf; subst hf
    have e0 : pt.slow = 323 := by kernel_rfl
    have e1 : pt.lock = 336 := by kernel_rfl
    have e2 : pt.loadB = 322 := by kernel_rfl
    have e3 : pt.storeB = 338 := by kernel_rfl
    have e4 : pt.unlock = 337 := by kernel_rfl
    rw [e1, e2, e3, e4] at hR
    rw [e0]
    have e : cfg.P = cfg0.P := by kernel_rfl
    rw [e] at hC hHR ⊢
    exact slow_ok (c0 := cfg0) (by kernel_rfl) mixedOk0 typesOk0 funcsOk0 hC hR hHR ha hl
  split at hR
  · rename_i hf; subst hf
    have e0 : pt.str = 240 := by kernel_rfl
    have e1 : pt.strT = 5 := by kernel_rfl
    rw [e1] at hR
    rw [e0]
    exact strRun_ok hR hHR ha
  split at hR
  · rename_i hf; subst hf
    have e0 : pt.sortI = renK.f 6 := by kernel_rfl
    have e1 : pt.iterI = renK.f 10 := by kernel_rfl
    have e2 : pt.tyI = renK.t 26 := by kernel_rfl
    rw [e1, e2] at hR
    rw [e0]
    exact sortedKeys_ok sortedFact hR hHR ha
  split at hR
  · rename_i hf; subst hf
    have e0 : pt.total = 97 := by kernel_rfl
    have e1 : pt.totalQ = 1 := by kernel_rfl
    rw [e1] at hR
    rw [e0]
    exact totalRun_ok hR hHR ha
  · simp at hR
theorem good : Go.AE.Good cfg := ⟨mixedOk, typesOk, funcsOk, primsOk⟩
end
end Go.Proofs.AeT
