/- Part 23 of the proof: BrokerNil returns true at every operation and leaves its argument as it was (the tied card, no condition). -/
import Derived.Test.YtjamfnaepkheeaaGreatDoorA05
import Derived.Test.YtjamfnaepkheeaaGreatDoorA07
import Derived.Test.YtjamfnaepkheeaaGreatDoorA22

/- BrokerNil, at every operation, says true: the card.
   What is proved: 'arbour/arbourlaw19.BrokerNil' returns true at every operation, and leaves its argument as it was: Rows.BrokerNilCardSaid, with no condition of its own. -/
namespace Go.Proofs.YtjamfnaepkheeaaGreatDoor
open Go Go.AE Go.ChangeShapes Go.WideShapes Go.ChangeAt Go.RowKit

theorem named4 : Tryz.prog.funcNamed "arbour/arbourlaw19.BrokerNil" = some 4 := by kernel_rfl
theorem inst4 : Tryz.f4.isInstance Tryz.prog Rows.brokerNilRow.origin Rows.brokerNilRow.targs := of_decide_eq_true (by kernel_rfl)
theorem wrap4 : Tryz.f4.isWrapper Tryz.prog Rows.brokerNilRow.wrapper Rows.brokerNilRow.mainSum := by unfold Func.isWrapper; rw [if_neg (of_decide_eq_false (by kernel_rfl))]; exact ⟨rfl, rfl⟩
theorem said4 (main : ∀ n xs, Shp Tryz.prog n 65 xs → ∃ (call : CallF) (hp' : Hp), CallOK Tryz.prog call ∧ call 4 [.agg xs] h0 = some ⟨.bool true, hp'⟩) : Rows.BrokerNilSaid :=
  OpenClaim.holds_of_wide 4 Tryz.f4 rfl rfl rfl rfl rfl rfl rfl ⟨rfl, rfl, rfl, rfl, rfl⟩ rfl rfl rfl rfl rfl named4 Tryz.func4 facts4 inst4 wrap4
    (fun os started H enc _ => lifted4 main os started H enc)
theorem wf4 : Rows.brokerNilRow.wfByText (OpenSpec.ofChange Rows.brokerNilSpec) = true := by kernel_rfl
theorem mainIs4 : Tryz.prog.mainIs = some (true, "d7eacff909f9eed4124b8692fb6309aba15e0d5fb453d6a494f21b4ff1cd1b35".toList) := by kernel_rfl
theorem looks4 : false = Tryz.prog.looks [] := by kernel_rfl
theorem params4 : Tryz.f4.params = #[65] := by kernel_rfl
theorem stand4 : Tryz.prog.wantsStandIn 65 = false := by kernel_rfl
theorem goes4 : false = Rows.brokerNilRow.goesBy Tryz.prog := by kernel_rfl

theorem card4 (main : ∀ n xs, Shp Tryz.prog n 65 xs → ∃ (call : CallF) (hp' : Hp), CallOK Tryz.prog call ∧ call 4 [.agg xs] h0 = some ⟨.bool true, hp'⟩) : Rows.BrokerNilCardSaid :=
  Claim7.holds_tied_plain_at .later [] [.data, .data, .data] true (true, "d7eacff909f9eed4124b8692fb6309aba15e0d5fb453d6a494f21b4ff1cd1b35") false
    (said4 main) (fun _ h => by cases h) wf4 (fun _ h => by cases h) brokerNil_row_tie rfl ⟨rfl, rfl⟩ mainIs4 rfl
    (fun f fn hf hfn => by
      obtain rfl : f = 4 := Option.some.inj (named4.symm.trans hf) |>.symm
      obtain rfl : fn = Tryz.f4 := (Option.some.inj (Tryz.func4.symm.trans hfn)).symm
      exact ⟨looks4, fun j t ht => by
        rw [params4] at ht
        have h65 : t = 65 := by
          rcases j with _ | j
          · simpa using ht.symm
          · simp at ht
        subst h65
        exact stand4⟩)
    goes4

theorem x_holds : Rows.BrokerNilCardSaid :=
  card4 fun n xs h => AeT.main65 AeT.tyOK (fun fuel d => Go.Proofs.AeT.good.runM (T := AeT.T17) (fun e he => by
    have : e = ⟨17, [], .bool true⟩ := List.mem_singleton.1 he
    subst this; exact AeT.awakeA) fuel d) n xs h
end Go.Proofs.YtjamfnaepkheeaaGreatDoor
