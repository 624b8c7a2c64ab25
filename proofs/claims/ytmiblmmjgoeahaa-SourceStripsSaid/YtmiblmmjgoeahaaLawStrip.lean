/- SourceStrips: Strip of any text returns what the reference returns. -/
import Derived.Test.YtmiblmmjgoeahaaStripRef
import Derived.Test.YtmiblmmjgoeahaaEqTok
namespace Go.Proofs.Ytmiblmmjgoeahaa
open Go.ChangeShapes Go.WideShapes Go.ChangeAt Go.RowKit
open Go.ChangeMaps (open_string shut_string)
theorem toks_ex : toks 0 [97, 32, 36, 40, 32, 98, 32, 36, 41, 32, 99] = [([97], 0), ([36, 40], 2), ([98], 5), ([36, 41], 7), ([99], 10)] := by
  have s32 : sp 32 = true := by decide
  have n97 : sp 97 = false := by decide
  have n36 : sp 36 = false := by decide
  have n40 : sp 40 = false := by decide
  have n41 : sp 41 = false := by decide
  have n98 : sp 98 = false := by decide
  have n99 : sp 99 = false := by decide
  simp [toks, s32, n97, n36, n40, n41, n98, n99]
theorem strip_ex : stripS [97, 32, 36, 40, 32, 98, 32, 36, 41, 32, 99] = ([([97], 0), ([99], 10)], [([32, 98, 32], 2, 1)], 0, 0) := by
  have h : scanS [97, 32, 36, 40, 32, 98, 32, 36, 41, 32, 99] = ([([97], 0), ([36, 40], 2), ([98], 5), ([36, 41], 7), ([99], 10)], 0, 0) := by
    unfold scanS
    rw [toks_ex]
    decide
  unfold stripS
  rw [h]
  decide
set_option maxRecDepth 100000 in
theorem awake02 (w : World) (hM : MaxAt w) : Calls Try.prog 27 #[] w fun e w' => e = .returned (.bool true) ∧ Below w.heap.size w w' := by
  go_enter Try.func27, Try.ntmps27
  go_wp2_with (go_at_call 28; (refine (strip_any _ [97, 32, 36, 40, 32, 98, 32, 36, 41, 32, 99] hM).mono ?_; simp only [strip_ex]; rintro e w1 ⟨v1, v2, rfl, hv1, hv2, hb1⟩; obtain ⟨A1, c1, rfl, hc1, _, hx1⟩ := hv1.open_; obtain ⟨A2, c2, rfl, hc2, _, hx2⟩ := hv2.open_; obtain ⟨b1, o1, rfl, s1, s2⟩ := hx1 1 _ rfl; obtain ⟨b2, o2, rfl, r1, r2, r3, r4⟩ := hx2 0 _ rfl; clear hx1 hx2 hv1 hv2; simp only [Nat.zero_mul, Nat.one_mul, Nat.add_zero] at s1 s2 r1 r2 r3 r4; simp only [List.length_cons, List.length_nil, Nat.zero_add, Nat.reduceAdd] at hc1 hc2 ⊢))
  go_ret
  exact ⟨rfl, hb1⟩
theorem law_strips (w : World) (s : List UInt8) (hM : MaxAt w) (hs : s.length ≤ maxLen) :
    Calls Try.prog 5 #[.string ⟨s.toArray⟩] w fun e w' => e = .returned (.bool true) ∧ Below w.heap.size w w' := by
  unfold maxLen at hs
  have hcl : (stripS s).2.1.length ≤ 1000000 := by
    unfold stripS
    split
    · simp
    · have hw := (scanS_where s).2.2
      have : ∀ (l : List TokD) (w : List TokD) (c : List ComD) (o : Option Nat) (x : StD), srun s (w, c, o) l = .inl x → x.2.1.length ≤ c.length + l.length := by
        intro l
        induction l with
        | nil => intro w c o x h; simp [srun] at h; subst h; simp
        | cons t l ih =>
          intro w c o x h
          unfold srun at h
          split at h
          · cases h
          · rename_i y hy
            obtain ⟨w', c', o'⟩ := y
            have h2 := ih w' c' o' x h
            have h3 : c'.length ≤ c.length + 1 := by
              unfold sstep at hy
              split at hy
              · cases hy
              · split at hy
                · split at hy
                  · cases hy
                  · injection hy with hy; injection hy with _ hy; injection hy with hy _; subst hy; simp
                · split at hy
                  · split at hy
                    · cases hy
                    · injection hy with hy; injection hy with _ hy; injection hy with hy _; subst hy; simp
                  · split at hy
                    · injection hy with hy; injection hy with _ hy; injection hy with hy _; subst hy; simp
                    · injection hy with hy; injection hy with _ hy; injection hy with hy _; subst hy; simp
            simp; omega
      split
      · simp
      · rename_i h
        have := this _ _ _ _ _ h
        simp at this ⊢
        omega
      · simp
  by_cases h1 : 3000 < s.length ∧ s.length ≤ 40000
  · obtain ⟨h1, h2⟩ := h1
    have g1 : decide ((3000 : Int) < (s.length : Int)) = true := decide_eq_true (by omega)
    have g2 : decide ((s.length : Int) ≤ 40000) = true := decide_eq_true (by omega)
    go_enter Try.func5, Try.ntmps5
    go_wp2_with (go_at_call 27; refine (awake02 _ hM).mono ?_; rintro e w1 ⟨rfl, hb1⟩)
    go_ret
    exact ⟨rfl, hb1⟩
  · have hcase : s.length ≤ 3000 ∨ 40000 < s.length := by omega
    clear h1
    rcases hcase with hc | hc
    all_goals
      go_enter Try.func5, Try.ntmps5
      go_wp2_with (first
        | (go_at_call 28; (refine (strip_any _ s hM).mono ?_; rintro e w1 ⟨v1, v2, rfl, hv1, hv2, hb1⟩))
        | (go_at_call 29; (refine (ref_strip _ s).mono ?_; rintro e w2 ⟨u1, u2, rfl, hu1, hu2, hb2⟩))
        | (go_at_call 30; (refine (equal_toks _ _ _ _ (hv1.below hb2) hu1).mono ?_; rintro e w3 ⟨rfl, hb3⟩))
        | (go_at_call 32; (refine (comments_any _ _ _ ((hv2.below hb2).below hb3) hcl).mono ?_; rintro e w4 ⟨v4, rfl, hv4, hb4⟩))
        | (go_at_call 31; (refine (equal_rcoms _ _ _ _ hv4 ((hu2.below hb3).below hb4)).mono ?_; rintro e w5 ⟨rfl, hb5⟩))
        | (go_at_call 27; (refine (awake02 _ (((((hM.below hb1).below hb2).below hb3).below hb4).below hb5)).mono ?_; rintro e w6 ⟨rfl, hb6⟩)))
      go_ret
      exact ⟨rfl, then_ (then_ (then_ (then_ (then_ hb1 hb2) hb3) hb4) hb5) hb6⟩
namespace sourceStrips
theorem isLaw : IsLaw Rows.sourceStripsSpec 1 := ⟨rfl, fun H ds hd => by
  match ds, hd with
  | [d1], _ => exact ⟨rfl, rfl, rfl⟩⟩
set_option maxRecDepth 100000 in
theorem walk : LawWalkM 5 Try.f5.params.toList := by
  intro H enc W base args ds before hval hA hlt hsz hM
  rw [Try.params5] at hA hval
  obtain ⟨v0, vs0, d0, ds0, p0, q0, hargs, rfl, rfl, h0, r0⟩ := trodAll_cons hA
  obtain ⟨rfl, rfl, rfl⟩ := trodAll_nil r0
  obtain rfl : args = #[v0] := by cases args; simp_all
  obtain ⟨a0, rfl, rfl, rfl, w0⟩ := open_string Try.underlying9 (hval 0 9 v0 rfl rfl) h0
  exact law_strips W a0.data.toList hM (by simpa using w0)
set_option maxRecDepth 100000 in
theorem lifted (os : Os) (started : os.Started) (H : Type) (enc : TypeId × Value → H) :
    ReturnsInHanded {} Try.checked os 5 .any (Rows.sourceStripsSpec.pre6 enc Try.prog Try.f5 [] false) (Rows.sourceStripsSpec.post enc Try.prog Try.f5 false true false false) :=
  law_returns_m started (by kernel_rfl) Try.func5 isLaw rfl rfl (by rw [Try.params5]; intro t ht; simp at ht; rcases ht with rfl <;> exact ⟨by kernel_rfl, of_decide_eq_true (by kernel_rfl)⟩)
    (ChangeSpec.witness6 (enc := enc) (C := Try.checked) false ⟨#[], #[.string ByteArray.empty], []⟩ 8 (by kernel_rfl) (by kernel_rfl) (by kernel_rfl) (by kernel_rfl)) walk
/-- the statement -/
theorem proved : Rows.SourceStripsSaid :=
  OpenClaim.holds_of_wide 5 Try.f5 rfl rfl rfl rfl rfl rfl rfl ⟨rfl, rfl, rfl, rfl, rfl⟩ rfl rfl rfl rfl rfl (by kernel_rfl) Try.func5 (by kernel_rfl)
    (of_decide_eq_true (by kernel_rfl)) (by unfold Func.isWrapper; first | (rw [if_pos (by decide +kernel)]; kernel_rfl) | (rw [if_neg (by decide +kernel)]; exact ⟨rfl, rfl⟩))
    (fun os started H enc _ => lifted os started H enc)
#print axioms proved
end sourceStrips
end Go.Proofs.Ytmiblmmjgoeahaa
