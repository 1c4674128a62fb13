/- Part 21 of the proof: OverlayNil returns true at every operation and leaves its argument as it was (the tied card, no condition). -/
import Derived.Test.YtjamfnaepkheeaaGreatDoorB05
import Derived.Test.YtjamfnaepkheeaaGreatDoorB07
import Derived.Test.YtjamfnaepkheeaaGreatDoorB20

/- OverlayNil, at every operation, says true: the card.
   What is proved: 'arbour/arbourlaw20.OverlayNil' returns true at every operation, and leaves its argument as it was: Rows.OverlayNilCardSaid, with no condition of its own. -/
namespace Go.Proofs.YtjamfnaepkheeaaGreatDoor
open Go Go.AE Go.ChangeShapes Go.WideShapes Go.ChangeAt Go.RowKit

theorem named5 : Tryz.prog.funcNamed "arbour/arbourlaw20.OverlayNil" = some 5 := by kernel_rfl
theorem inst5 : Tryz.f5.isInstance Tryz.prog Rows.overlayNilRow.origin Rows.overlayNilRow.targs := of_decide_eq_true (by kernel_rfl)
theorem wrap5 : Tryz.f5.isWrapper Tryz.prog Rows.overlayNilRow.wrapper Rows.overlayNilRow.mainSum := by unfold Func.isWrapper; rw [if_neg (of_decide_eq_false (by kernel_rfl))]; exact ⟨rfl, rfl⟩
theorem said5 (main : ∀ n xs, Shp Tryz.prog n 82 xs → ∃ (call : CallF) (hp' : Hp), CallOK Tryz.prog call ∧ call 5 [.agg xs] h0 = some ⟨.bool true, hp'⟩) : Rows.OverlayNilSaid :=
  OpenClaim.holds_of_wide 5 Tryz.f5 rfl rfl rfl rfl rfl rfl rfl ⟨rfl, rfl, rfl, rfl, rfl⟩ rfl rfl rfl rfl rfl named5 Tryz.func5 facts5 inst5 wrap5
    (fun os started H enc _ => lifted5 main os started H enc)
theorem wf5 : Rows.overlayNilRow.wfByText (OpenSpec.ofChange Rows.overlayNilSpec) = true := by kernel_rfl
theorem mainIs5 : Tryz.prog.mainIs = some (true, "d7eacff909f9eed4124b8692fb6309aba15e0d5fb453d6a494f21b4ff1cd1b35".toList) := by kernel_rfl
theorem looks5 : false = Tryz.prog.looks [] := by kernel_rfl
theorem params5 : Tryz.f5.params = #[82] := by kernel_rfl
theorem stand5 : Tryz.prog.wantsStandIn 82 = false := by kernel_rfl
theorem goes5 : false = Rows.overlayNilRow.goesBy Tryz.prog := by kernel_rfl

theorem card5 (main : ∀ n xs, Shp Tryz.prog n 82 xs → ∃ (call : CallF) (hp' : Hp), CallOK Tryz.prog call ∧ call 5 [.agg xs] h0 = some ⟨.bool true, hp'⟩) : Rows.OverlayNilCardSaid :=
  Claim7.holds_tied_plain_at .later [] [.data, .data, .data] true (true, "d7eacff909f9eed4124b8692fb6309aba15e0d5fb453d6a494f21b4ff1cd1b35") false
    (said5 main) (fun _ h => by cases h) wf5 (fun _ h => by cases h) overlayNil_row_tie rfl ⟨rfl, rfl⟩ mainIs5 rfl
    (fun f fn hf hfn => by
      obtain rfl : f = 5 := Option.some.inj (named5.symm.trans hf) |>.symm
      obtain rfl : fn = Tryz.f5 := (Option.some.inj (Tryz.func5.symm.trans hfn)).symm
      exact ⟨looks5, fun j t ht => by
        rw [params5] at ht
        have h82 : t = 82 := by
          rcases j with _ | j
          · simpa using ht.symm
          · simp at ht
        subst h82
        exact stand5⟩)
    goes5

theorem y_holds : Rows.OverlayNilCardSaid :=
  card5 fun n xs h => AeT.main82 AeT.tyOK AeT.u82 (fun fuel d => Go.Proofs.AeT.good.runM (T := AeT.T29) (fun e he => by
    have : e = ⟨29, [], .bool true⟩ := List.mem_singleton.1 he
    subst this; exact AeT.awakeB) fuel d) n xs h
end Go.Proofs.YtjamfnaepkheeaaGreatDoor
