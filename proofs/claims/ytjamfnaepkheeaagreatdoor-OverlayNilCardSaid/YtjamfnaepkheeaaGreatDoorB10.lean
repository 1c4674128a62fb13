/- Part 10 of the proof: OverlayNil returns true at every operation and leaves its argument as it was (the tied card, no condition). -/
import Derived.Test.YtjamfnaepkheeaaGreatDoorProg
import Derived.RegionTactic
import Derived.RegionCalls
import Derived.WalkKit
import Derived.Test.YtjamfnaepkheeaaGreatDoorB09

/- slices.Clone of an empty slice, at this program: one lemma an instance. (Written by mkcln.py.) -/
namespace Go.Proofs.AeT
open Go Go.AE Go.Proofs Go.RowKit
noncomputable section

theorem cloneRun_of {P : Program} {f : FuncId} {fn : Func} {c : Code} (hf : P.funcs[f]? = some fn) (hb : fn.body = some c) (hn : fn.name ≠ "runtime.NumGoroutine")
    (h0 : ∀ cap w, Calls P f #[.slice none 0 cap] w fun e w' => ∃ a, e = .returned (.slice a 0 0) ∧ Below w.heap.size w w')
    (h1 : ∀ b cap w, Calls P f #[.slice (some b) 0 cap] w fun e w' => ∃ a, e = .returned (.slice a 0 0) ∧ Below w.heap.size w w')
    {T : TypeId} (hT : T ≠ 0) {args : List D} {hp : Hp} {R : Res} (hR : cloneRun T args hp = some R) {w : World} {S : Fixed} {β : Emb} (h : HR P hp w S β) {vs : Array Value} (ha : RVs w S β args vs.toList) : CallsBack P f vs w (Back P hp w S β R) := by
  have key : (∃ a cap, vs = #[.slice a 0 cap]) ∧ R = ⟨.own T [], clean hp⟩ := by
    unfold cloneRun at hR
    split at hR
    · simp only [Option.some.injEq] at hR; subst hR
      obtain ⟨v1, us, he, k1, k2⟩ := ha
      have k2 : us = [] := k2
      subst k2
      have hvs : vs = #[v1] := by apply Array.ext'; simpa using he
      subst hvs
      obtain ⟨a, cap, rfl, _⟩ : ∃ a cap, v1 = .slice a ([] : List D).length cap ∧ _ := by simpa only [RV] using k1
      exact ⟨⟨a, cap, rfl⟩, rfl⟩
    · simp only [Option.some.injEq] at hR; subst hR
      obtain ⟨v1, us, he, k1, k2⟩ := ha
      have k2 : us = [] := k2
      subst k2
      have hvs : vs = #[v1] := by apply Array.ext'; simpa using he
      subst hvs
      obtain ⟨a, rfl⟩ : ∃ a, v1 = .slice a 0 0 := by simpa only [RV] using k1
      exact ⟨⟨a, 0, rfl⟩, rfl⟩
    · simp at hR
  obtain ⟨⟨a, cap, rfl⟩, rfl⟩ := key
  have hc : Calls P f #[.slice a 0 cap] w fun e w' => ∃ a, e = .returned (.slice a 0 0) ∧ Below w.heap.size w w' := by
    cases a with
    | none => exact h0 cap w
    | some b => exact h1 b cap w
  refine .inr ⟨run_callFunc hf hb hn _ _, hc.mono ?_⟩
  rintro e w' ⟨a', rfl, hbl⟩
  obtain ⟨k1, k2⟩ := h.below hbl
  refine ⟨HpRel.clean h.2, S, β, HR.objs (hp := hp) (hp' := clean hp) rfl k1, Fr.objs (hp := hp) (hp' := clean hp) rfl k2, ?_⟩
  exact ⟨0, 0, 0, a', rfl, fun h0 => by omega, by rw [if_neg hT]; exact ⟨(add_here β _ _ _ _ _).2.2.2, .inl ⟨(add_here β _ _ _ _ _).2.1, rfl⟩⟩, trivial, fun h0 => by omega⟩

set_option maxHeartbeats 1000000 in
set_option maxRecDepth 100000 in
theorem clone_nil58 (cap : Nat) (w : World) : Calls Tryz.prog 58 #[.slice none 0 cap] w fun e w' => ∃ a, e = .returned (.slice a 0 0) ∧ Below w.heap.size w w' := by
  have hb : ∀ w, (binOp .eql 32 (.slice none 0 cap) (.slice none 0 0)).run Tryz.prog w = .ok (.bool true) w := fun w => by
    simp only [binOp, Op.equal, Sem.run_bind]; rfl
  go_enter Tryz.func58, Tryz.ntmps58
  go_wp2
  go_ret
  exact ⟨_, rfl, Below.refl _ _⟩

set_option maxHeartbeats 1000000 in
set_option maxRecDepth 100000 in
theorem clone_some58 (b : Addr) (cap : Nat) (w : World) : Calls Tryz.prog 58 #[.slice (some b) 0 cap] w fun e w' => ∃ a, e = .returned (.slice a 0 0) ∧ Below w.heap.size w w' := by
  have hb : ∀ w, (binOp .eql 32 (.slice (some b) 0 cap) (.slice none 0 0)).run Tryz.prog w = .ok (.bool false) w := fun w => by
    simp only [binOp, Op.equal, Sem.run_bind]; rfl
  go_enter Tryz.func58, Tryz.ntmps58
  go_wp2
  go_ret
  exact ⟨_, rfl, (Below.refl _ _).alloc (Nat.le_refl _) _⟩
theorem cloneRun58 {args : List D} {hp : Hp} {R : Res} (hR : cloneRun 49 args hp = some R) {w : World} {S : Fixed} {β : Emb} (h : HR Tryz.prog hp w S β) {vs : Array Value} (ha : RVs w S β args vs.toList) : CallsBack Tryz.prog 58 vs w (Back Tryz.prog hp w S β R) :=
  cloneRun_of Tryz.func58 rfl (by decide) clone_nil58 clone_some58 (by decide) hR h ha

set_option maxHeartbeats 1000000 in
set_option maxRecDepth 100000 in
theorem clone_nil93 (cap : Nat) (w : World) : Calls Tryz.prog 93 #[.slice none 0 cap] w fun e w' => ∃ a, e = .returned (.slice a 0 0) ∧ Below w.heap.size w w' := by
  have hb : ∀ w, (binOp .eql 92 (.slice none 0 cap) (.slice none 0 0)).run Tryz.prog w = .ok (.bool true) w := fun w => by
    simp only [binOp, Op.equal, Sem.run_bind]; rfl
  go_enter Tryz.func93, Tryz.ntmps93
  go_wp2
  go_ret
  exact ⟨_, rfl, Below.refl _ _⟩

set_option maxHeartbeats 1000000 in
set_option maxRecDepth 100000 in
theorem clone_some93 (b : Addr) (cap : Nat) (w : World) : Calls Tryz.prog 93 #[.slice (some b) 0 cap] w fun e w' => ∃ a, e = .returned (.slice a 0 0) ∧ Below w.heap.size w w' := by
  have hb : ∀ w, (binOp .eql 92 (.slice (some b) 0 cap) (.slice none 0 0)).run Tryz.prog w = .ok (.bool false) w := fun w => by
    simp only [binOp, Op.equal, Sem.run_bind]; rfl
  go_enter Tryz.func93, Tryz.ntmps93
  go_wp2
  go_ret
  exact ⟨_, rfl, (Below.refl _ _).alloc (Nat.le_refl _) _⟩
theorem cloneRun93 {args : List D} {hp : Hp} {R : Res} (hR : cloneRun 171 args hp = some R) {w : World} {S : Fixed} {β : Emb} (h : HR Tryz.prog hp w S β) {vs : Array Value} (ha : RVs w S β args vs.toList) : CallsBack Tryz.prog 93 vs w (Back Tryz.prog hp w S β R) :=
  cloneRun_of Tryz.func93 rfl (by decide) clone_nil93 clone_some93 (by decide) hR h ha

set_option maxHeartbeats 1000000 in
set_option maxRecDepth 100000 in
theorem clone_nil94 (cap : Nat) (w : World) : Calls Tryz.prog 94 #[.slice none 0 cap] w fun e w' => ∃ a, e = .returned (.slice a 0 0) ∧ Below w.heap.size w w' := by
  have hb : ∀ w, (binOp .eql 94 (.slice none 0 cap) (.slice none 0 0)).run Tryz.prog w = .ok (.bool true) w := fun w => by
    simp only [binOp, Op.equal, Sem.run_bind]; rfl
  go_enter Tryz.func94, Tryz.ntmps94
  go_wp2
  go_ret
  exact ⟨_, rfl, Below.refl _ _⟩

set_option maxHeartbeats 1000000 in
set_option maxRecDepth 100000 in
theorem clone_some94 (b : Addr) (cap : Nat) (w : World) : Calls Tryz.prog 94 #[.slice (some b) 0 cap] w fun e w' => ∃ a, e = .returned (.slice a 0 0) ∧ Below w.heap.size w w' := by
  have hb : ∀ w, (binOp .eql 94 (.slice (some b) 0 cap) (.slice none 0 0)).run Tryz.prog w = .ok (.bool false) w := fun w => by
    simp only [binOp, Op.equal, Sem.run_bind]; rfl
  go_enter Tryz.func94, Tryz.ntmps94
  go_wp2
  go_ret
  exact ⟨_, rfl, (Below.refl _ _).alloc (Nat.le_refl _) _⟩
theorem cloneRun94 {args : List D} {hp : Hp} {R : Res} (hR : cloneRun 173 args hp = some R) {w : World} {S : Fixed} {β : Emb} (h : HR Tryz.prog hp w S β) {vs : Array Value} (ha : RVs w S β args vs.toList) : CallsBack Tryz.prog 94 vs w (Back Tryz.prog hp w S β R) :=
  cloneRun_of Tryz.func94 rfl (by decide) clone_nil94 clone_some94 (by decide) hR h ha

set_option maxHeartbeats 1000000 in
set_option maxRecDepth 100000 in
theorem clone_nil99 (cap : Nat) (w : World) : Calls Tryz.prog 99 #[.slice none 0 cap] w fun e w' => ∃ a, e = .returned (.slice a 0 0) ∧ Below w.heap.size w w' := by
  have hb : ∀ w, (binOp .eql 33 (.slice none 0 cap) (.slice none 0 0)).run Tryz.prog w = .ok (.bool true) w := fun w => by
    simp only [binOp, Op.equal, Sem.run_bind]; rfl
  go_enter Tryz.func99, Tryz.ntmps99
  go_wp2
  go_ret
  exact ⟨_, rfl, Below.refl _ _⟩

set_option maxHeartbeats 1000000 in
set_option maxRecDepth 100000 in
theorem clone_some99 (b : Addr) (cap : Nat) (w : World) : Calls Tryz.prog 99 #[.slice (some b) 0 cap] w fun e w' => ∃ a, e = .returned (.slice a 0 0) ∧ Below w.heap.size w w' := by
  have hb : ∀ w, (binOp .eql 33 (.slice (some b) 0 cap) (.slice none 0 0)).run Tryz.prog w = .ok (.bool false) w := fun w => by
    simp only [binOp, Op.equal, Sem.run_bind]; rfl
  go_enter Tryz.func99, Tryz.ntmps99
  go_wp2
  go_ret
  exact ⟨_, rfl, (Below.refl _ _).alloc (Nat.le_refl _) _⟩
theorem cloneRun99 {args : List D} {hp : Hp} {R : Res} (hR : cloneRun 3 args hp = some R) {w : World} {S : Fixed} {β : Emb} (h : HR Tryz.prog hp w S β) {vs : Array Value} (ha : RVs w S β args vs.toList) : CallsBack Tryz.prog 99 vs w (Back Tryz.prog hp w S β R) :=
  cloneRun_of Tryz.func99 rfl (by decide) clone_nil99 clone_some99 (by decide) hR h ha

set_option maxHeartbeats 1000000 in
set_option maxRecDepth 100000 in
theorem clone_nil201 (cap : Nat) (w : World) : Calls Tryz.prog 201 #[.slice none 0 cap] w fun e w' => ∃ a, e = .returned (.slice a 0 0) ∧ Below w.heap.size w w' := by
  have hb : ∀ w, (binOp .eql 54 (.slice none 0 cap) (.slice none 0 0)).run Tryz.prog w = .ok (.bool true) w := fun w => by
    simp only [binOp, Op.equal, Sem.run_bind]; rfl
  go_enter Tryz.func201, Tryz.ntmps201
  go_wp2
  go_ret
  exact ⟨_, rfl, Below.refl _ _⟩

set_option maxHeartbeats 1000000 in
set_option maxRecDepth 100000 in
theorem clone_some201 (b : Addr) (cap : Nat) (w : World) : Calls Tryz.prog 201 #[.slice (some b) 0 cap] w fun e w' => ∃ a, e = .returned (.slice a 0 0) ∧ Below w.heap.size w w' := by
  have hb : ∀ w, (binOp .eql 54 (.slice (some b) 0 cap) (.slice none 0 0)).run Tryz.prog w = .ok (.bool false) w := fun w => by
    simp only [binOp, Op.equal, Sem.run_bind]; rfl
  go_enter Tryz.func201, Tryz.ntmps201
  go_wp2
  go_ret
  exact ⟨_, rfl, (Below.refl _ _).alloc (Nat.le_refl _) _⟩
theorem cloneRun201 {args : List D} {hp : Hp} {R : Res} (hR : cloneRun 9 args hp = some R) {w : World} {S : Fixed} {β : Emb} (h : HR Tryz.prog hp w S β) {vs : Array Value} (ha : RVs w S β args vs.toList) : CallsBack Tryz.prog 201 vs w (Back Tryz.prog hp w S β R) :=
  cloneRun_of Tryz.func201 rfl (by decide) clone_nil201 clone_some201 (by decide) hR h ha

set_option maxHeartbeats 1000000 in
set_option maxRecDepth 100000 in
theorem clone_nil229 (cap : Nat) (w : World) : Calls Tryz.prog 229 #[.slice none 0 cap] w fun e w' => ∃ a, e = .returned (.slice a 0 0) ∧ Below w.heap.size w w' := by
  have hb : ∀ w, (binOp .eql 53 (.slice none 0 cap) (.slice none 0 0)).run Tryz.prog w = .ok (.bool true) w := fun w => by
    simp only [binOp, Op.equal, Sem.run_bind]; rfl
  go_enter Tryz.func229, Tryz.ntmps229
  go_wp2
  go_ret
  exact ⟨_, rfl, Below.refl _ _⟩

set_option maxHeartbeats 1000000 in
set_option maxRecDepth 100000 in
theorem clone_some229 (b : Addr) (cap : Nat) (w : World) : Calls Tryz.prog 229 #[.slice (some b) 0 cap] w fun e w' => ∃ a, e = .returned (.slice a 0 0) ∧ Below w.heap.size w w' := by
  have hb : ∀ w, (binOp .eql 53 (.slice (some b) 0 cap) (.slice none 0 0)).run Tryz.prog w = .ok (.bool false) w := fun w => by
    simp only [binOp, Op.equal, Sem.run_bind]; rfl
  go_enter Tryz.func229, Tryz.ntmps229
  go_wp2
  go_ret
  exact ⟨_, rfl, (Below.refl _ _).alloc (Nat.le_refl _) _⟩
theorem cloneRun229 {args : List D} {hp : Hp} {R : Res} (hR : cloneRun 169 args hp = some R) {w : World} {S : Fixed} {β : Emb} (h : HR Tryz.prog hp w S β) {vs : Array Value} (ha : RVs w S β args vs.toList) : CallsBack Tryz.prog 229 vs w (Back Tryz.prog hp w S β R) :=
  cloneRun_of Tryz.func229 rfl (by decide) clone_nil229 clone_some229 (by decide) hR h ha

set_option maxHeartbeats 1000000 in
set_option maxRecDepth 100000 in
theorem clone_nil303 (cap : Nat) (w : World) : Calls Tryz.prog 303 #[.slice none 0 cap] w fun e w' => ∃ a, e = .returned (.slice a 0 0) ∧ Below w.heap.size w w' := by
  have hb : ∀ w, (binOp .eql 385 (.slice none 0 cap) (.slice none 0 0)).run Tryz.prog w = .ok (.bool true) w := fun w => by
    simp only [binOp, Op.equal, Sem.run_bind]; rfl
  go_enter Tryz.func303, Tryz.ntmps303
  go_wp2
  go_ret
  exact ⟨_, rfl, Below.refl _ _⟩

set_option maxHeartbeats 1000000 in
set_option maxRecDepth 100000 in
theorem clone_some303 (b : Addr) (cap : Nat) (w : World) : Calls Tryz.prog 303 #[.slice (some b) 0 cap] w fun e w' => ∃ a, e = .returned (.slice a 0 0) ∧ Below w.heap.size w w' := by
  have hb : ∀ w, (binOp .eql 385 (.slice (some b) 0 cap) (.slice none 0 0)).run Tryz.prog w = .ok (.bool false) w := fun w => by
    simp only [binOp, Op.equal, Sem.run_bind]; rfl
  go_enter Tryz.func303, Tryz.ntmps303
  go_wp2
  go_ret
  exact ⟨_, rfl, (Below.refl _ _).alloc (Nat.le_refl _) _⟩
theorem cloneRun303 {args : List D} {hp : Hp} {R : Res} (hR : cloneRun 47 args hp = some R) {w : World} {S : Fixed} {β : Emb} (h : HR Tryz.prog hp w S β) {vs : Array Value} (ha : RVs w S β args vs.toList) : CallsBack Tryz.prog 303 vs w (Back Tryz.prog hp w S β R) :=
  cloneRun_of Tryz.func303 rfl (by decide) clone_nil303 clone_some303 (by decide) hR h ha

set_option maxHeartbeats 1000000 in
set_option maxRecDepth 100000 in
theorem clone_nil304 (cap : Nat) (w : World) : Calls Tryz.prog 304 #[.slice none 0 cap] w fun e w' => ∃ a, e = .returned (.slice a 0 0) ∧ Below w.heap.size w w' := by
  have hb : ∀ w, (binOp .eql 211 (.slice none 0 cap) (.slice none 0 0)).run Tryz.prog w = .ok (.bool true) w := fun w => by
    simp only [binOp, Op.equal, Sem.run_bind]; rfl
  go_enter Tryz.func304, Tryz.ntmps304
  go_wp2
  go_ret
  exact ⟨_, rfl, Below.refl _ _⟩

set_option maxHeartbeats 1000000 in
set_option maxRecDepth 100000 in
theorem clone_some304 (b : Addr) (cap : Nat) (w : World) : Calls Tryz.prog 304 #[.slice (some b) 0 cap] w fun e w' => ∃ a, e = .returned (.slice a 0 0) ∧ Below w.heap.size w w' := by
  have hb : ∀ w, (binOp .eql 211 (.slice (some b) 0 cap) (.slice none 0 0)).run Tryz.prog w = .ok (.bool false) w := fun w => by
    simp only [binOp, Op.equal, Sem.run_bind]; rfl
  go_enter Tryz.func304, Tryz.ntmps304
  go_wp2
  go_ret
  exact ⟨_, rfl, (Below.refl _ _).alloc (Nat.le_refl _) _⟩
theorem cloneRun304 {args : List D} {hp : Hp} {R : Res} (hR : cloneRun 56 args hp = some R) {w : World} {S : Fixed} {β : Emb} (h : HR Tryz.prog hp w S β) {vs : Array Value} (ha : RVs w S β args vs.toList) : CallsBack Tryz.prog 304 vs w (Back Tryz.prog hp w S β R) :=
  cloneRun_of Tryz.func304 rfl (by decide) clone_nil304 clone_some304 (by decide) hR h ha
end
end Go.Proofs.AeT
