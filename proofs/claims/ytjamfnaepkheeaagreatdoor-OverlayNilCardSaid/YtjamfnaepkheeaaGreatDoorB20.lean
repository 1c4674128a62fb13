/- Part 20 of the proof: OverlayNil returns true at every operation and leaves its argument as it was (the tied card, no condition). -/
import Derived.Test.YtjamfnaepkheeaaGreatDoorB12
import Derived.Test.YtjamfnaepkheeaaGreatDoorB14
import Derived.Test.YtjamfnaepkheeaaGreatDoorB15
import Derived.Test.YtjamfnaepkheeaaGreatDoorB16
import Derived.Test.YtjamfnaepkheeaaGreatDoorB17
import Derived.Test.YtjamfnaepkheeaaGreatDoorB18
import Derived.Test.YtjamfnaepkheeaaGreatDoorB19

/- awake of layer 20 says true. -/
namespace Go.Proofs.AeT
open Go Go.AE Go.Proofs
noncomputable section
theorem nilOK : ∀ e ∈ ([] : List Ent), EntOK cfg.P e := fun e he => by simp at he
theorem tB0 : ∀ e ∈ AeB_t0, EntOK cfg.P e := good.ents nilOK AeB_g0
theorem tB1 : ∀ e ∈ AeB_t1, EntOK cfg.P e := Go.AE.Good.app (good.ents tB0 AeB_g1) tB0
theorem tB2 : ∀ e ∈ AeB_t2, EntOK cfg.P e := Go.AE.Good.app (good.ents tB1 AeB_g2) tB1
theorem tB3 : ∀ e ∈ AeB_t3, EntOK cfg.P e := Go.AE.Good.app (good.ents tB2 AeB_g3) tB2
theorem tB4 : ∀ e ∈ AeB_t4, EntOK cfg.P e := Go.AE.Good.app (good.ents tB3 AeB_g4) tB3
theorem awakeB : EntOK cfg.P ⟨29, [], .bool true⟩ := good.ents tB4 (l := [⟨29, [], .bool true⟩]) (loops := 10000) (n := 60) (by
  show (entB cfg AeB_t4 10000 60 ⟨29, [], .bool true⟩ && true) = true
  rw [AeB_top]; rfl) _ (List.mem_singleton.2 rfl)
end
end Go.Proofs.AeT
