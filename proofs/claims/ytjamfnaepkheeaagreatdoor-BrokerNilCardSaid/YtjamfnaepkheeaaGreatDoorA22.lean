/- Part 22 of the proof: BrokerNil returns true at every operation and leaves its argument as it was (the tied card, no condition). -/
import Derived.Test.YtjamfnaepkheeaaGreatDoorA12
import Derived.Test.YtjamfnaepkheeaaGreatDoorA14
import Derived.Test.YtjamfnaepkheeaaGreatDoorA15
import Derived.Test.YtjamfnaepkheeaaGreatDoorA16
import Derived.Test.YtjamfnaepkheeaaGreatDoorA17
import Derived.Test.YtjamfnaepkheeaaGreatDoorA18
import Derived.Test.YtjamfnaepkheeaaGreatDoorA19
import Derived.Test.YtjamfnaepkheeaaGreatDoorA20
import Derived.Test.YtjamfnaepkheeaaGreatDoorA21

/- awake of layer 19 says true. -/
namespace Go.Proofs.AeT
open Go Go.AE Go.Proofs
noncomputable section
theorem nilOK : ∀ e ∈ ([] : List Ent), EntOK cfg.P e := fun e he => by simp at he
theorem tA0 : ∀ e ∈ AeA_t0, EntOK cfg.P e := good.ents nilOK AeA_g0
theorem tA1 : ∀ e ∈ AeA_t1, EntOK cfg.P e := Go.AE.Good.app (good.ents tA0 AeA_g1) tA0
theorem tA2 : ∀ e ∈ AeA_t2, EntOK cfg.P e := Go.AE.Good.app (good.ents tA1 AeA_g2) tA1
theorem tA3 : ∀ e ∈ AeA_t3, EntOK cfg.P e := Go.AE.Good.app (good.ents tA2 AeA_g3) tA2
theorem tA4 : ∀ e ∈ AeA_t4, EntOK cfg.P e := Go.AE.Good.app (good.ents tA3 AeA_g4) tA3
theorem tA5 : ∀ e ∈ AeA_t5, EntOK cfg.P e := Go.AE.Good.app (good.ents tA4 AeA_g5) tA4
theorem tA6 : ∀ e ∈ AeA_t6, EntOK cfg.P e := Go.AE.Good.app (good.ents tA5 AeA_g6) tA5
theorem awakeA : EntOK cfg.P ⟨17, [], .bool true⟩ := good.ents tA6 (l := [⟨17, [], .bool true⟩]) (loops := 10000) (n := 60) (by
  show (entB cfg AeA_t6 10000 60 ⟨17, [], .bool true⟩ && true) = true
  rw [AeA_top]; rfl) _ (List.mem_singleton.2 rfl)
end
end Go.Proofs.AeT
