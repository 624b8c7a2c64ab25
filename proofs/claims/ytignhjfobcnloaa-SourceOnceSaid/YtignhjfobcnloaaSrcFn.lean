/- Walks in the frames of one function: a block; a post in which a panic asks the deferred calls alone. -/
import Derived.Test.YtignhjfobcnloaaRangeA
namespace Go.Proofs.Ytignhjfobcnloaa
open Go.RowKit
theorem wpFn_block {f0 : FuncId} {P : Program} {Q : Exit → Act → World → Prop} {a : Act} {w : World} {id : Nat} {c : Code} (h : wpFn f0 P c (Exit.inBlock id Q) a w) : wpFn f0 P (.block id c) Q a w := by
  intro b k cs hro hb
  have h0 := fenced_wide P (lone (b.atR a (.code (.block id c) :: k)) cs w)
  obtain ⟨e, a₁, w₁, hq, harr⟩ := h b (.inBlock id :: k) cs hro hb
  cases e with
  | normal => exact ⟨.normal, a₁, w₁, hq, .head h0 stepR_block (StepsIn.trans harr (.one (fenced_wide P _) stepR_inBlock))⟩
  | exit id' =>
    by_cases hid : id' = id
    · simp only [Exit.inBlock, hid, if_true] at hq
      exact ⟨.normal, a₁, w₁, hq, .head h0 stepR_block (harr.1 k (by simp [exitTo, hid]))⟩
    · simp only [Exit.inBlock, hid, if_false] at hq
      have this : (id == id') = false := by simp; exact fun h => hid h.symm
      have hx : exitTo id' (.inBlock id :: k) = exitTo id' k := by simp [exitTo, this]
      exact ⟨.exit id', a₁, w₁, hq, fun k' hk => .head h0 stepR_block (harr.1 k' (by rw [hx]; exact hk)),
        fun hr' hk => let ⟨k₁, h1, h2⟩ := harr.2 hr' (by rw [hx]; exact hk); ⟨k₁, h1, .head h0 stepR_block h2⟩⟩
  | goto l =>
    have hx : gotoIn l (.inBlock id :: k) = gotoIn l k := by simp [gotoIn]
    exact ⟨_, a₁, w₁, hq, fun k' hk => .head h0 stepR_block (harr.1 k' (by rw [hx]; exact hk)),
      fun hr' hk => let ⟨k₁, h1, h2⟩ := harr.2 hr' (by rw [hx]; exact hk); ⟨k₁, h1, .head h0 stepR_block h2⟩⟩
  | ret => exact ⟨_, a₁, w₁, hq, .of_steps (.one h0 stepR_block) harr⟩
  | panic ch => exact ⟨_, a₁, w₁, hq, .of_steps (.one h0 stepR_block) harr⟩
  | outgrown => exact ⟨_, a₁, w₁, hq, .of_steps (.one h0 stepR_block) harr⟩
/-- what a body owes, where a panic asks nothing of the slots: so a region may be walked in one order -/
def postT (P : Program) (fn : Func) (R : Ending → World → Prop) : Exit → Act → World → Prop
  | .panic ch, a, w => (a.defers = [] ∧ R (.panicked ch) w) ∨ ∃ D w', a.defers = [{ target := .collected D, args := #[] }] ∧ (Instr.takeDeferred D).run P w = .ok [] w' ∧ R (.panicked ch) w'
  | e, a, w => bodyPostM Fence.wide 3 P fn R e a w
theorem postT_body {P : Program} {fn : Func} {R : Ending → World → Prop} {e : Exit} {a : Act} {w : World} (h : postT P fn R e a w) : bodyPostM Fence.wide 3 P fn R e a w := by
  cases e with
  | panic ch =>
    rcases h with ⟨hd, hr⟩ | ⟨D, w', hd, ht, hr⟩
    · unfold bodyPostM
      dsimp only
      rw [hd]
      exact hr
    · unfold bodyPostM
      dsimp only
      rw [hd]
      exact ⟨by simp, .inl ⟨D, w', rfl, ht, hr⟩⟩
  | normal => exact h
  | ret => exact h
  | exit i => exact h
  | goto l => exact h
  | outgrown => exact h
theorem wpFn_mono {f0 : FuncId} {P : Program} {Q Q' : Exit → Act → World → Prop} {a : Act} {w : World} {c : Code} (h : wpFn f0 P c Q a w) (hq : ∀ e a w, Q e a w → Q' e a w) : wpFn f0 P c Q' a w := fun b k cs hro hb => by
  obtain ⟨e, a', w', hq', harr⟩ := h b k cs hro hb
  exact ⟨e, a', w', hq _ _ _ hq', harr⟩
end Go.Proofs.Ytignhjfobcnloaa
