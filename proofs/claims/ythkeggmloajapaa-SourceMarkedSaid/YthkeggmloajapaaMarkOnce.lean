/- A replacer is made, and built once. -/
import Derived.Test.YthkeggmloajapaaMarkBuild
import Derived.Defers
import Derived.Laws.Pointers
import Derived.Laws.LoneSync
import Derived.RegionCalls
namespace Go.Proofs.Ythkeggmloajapaa
open Go.RowKit
/-- a replacer that is not built yet -/
def NewRep (w : World) (R : Nat) (d m : Int) : Prop := ∃ O c, Row w R 90 #[.int .u32 d, .int .i32 m, .int .u32 0, .nilIface, .slice (some ⟨O, 0, none⟩) 6 c] ∧ ∀ (j : Nat) x, pairsL[j]? = some x → w.cell? ⟨O, j, none⟩ = some (.string ⟨x.toArray⟩)
/-- .. that is built -/
def OldRep (w : World) (R : Nat) (d m : Int) : Prop := ∃ G, Row w R 90 #[.int .u32 d, .int .i32 m, .int .u32 0, .iface 117 (.pointer (some ⟨G, 0, none⟩)), .slice none 0 0] ∧ RepAt (R + 1) w G
theorem cell_hk {w w' : World} {k o : Nat} {v : Value} (h : w.cell? ⟨k, o, none⟩ = some v) (hk : ∀ b, w.heap[k]? = some b → w'.heap[k]? = some b) : w'.cell? ⟨k, o, none⟩ = some v := by
  rw [← h]
  unfold World.cell? at h ⊢
  dsimp only at h ⊢
  cases hb : w.heap[k]? with
  | none => rw [hb] at h; simp at h
  | some b => rw [hk b hb]
theorem RepAt.kept {lo : Nat} {w w' : World} {G : Nat} (h : RepAt lo w G) (hk : ∀ (k : Nat) b, lo ≤ k → w.heap[k]? = some b → w'.heap[k]? = some b) : RepAt lo w' G := by
  obtain ⟨cs, T, c, ⟨l1, l2⟩, hr, h1, h2, h3, h4, h5⟩ := h
  refine ⟨cs, T, c, ⟨l1, l2⟩, hk G _ l1 hr, h1, h2, fun j x hx => cell_hk (h3 j x hx) fun b hb => hk T b l2 hb, h4, fun b hb => ?_⟩
  obtain ⟨D, cD, q1, q2, q3⟩ := h5 b hb
  exact ⟨D, cD, q1, q2, fun j v hv => cell_hk (q3 j v hv) fun b hb => hk D b q2.2 hb⟩
theorem RepAt.lower {lo lo' : Nat} {w : World} {G : Nat} (h : RepAt lo w G) (hl : lo' ≤ lo) : RepAt lo' w G := by
  obtain ⟨cs, T, c, ⟨l1, l2⟩, hr, h1, h2, h3, h4, h5⟩ := h
  refine ⟨cs, T, c, ⟨Nat.le_trans hl l1, Nat.le_trans hl l2⟩, hr, h1, h2, h3, h4, fun b hb => ?_⟩
  obtain ⟨D, cD, q1, q2, q3⟩ := h5 b hb
  exact ⟨D, cD, q1, ⟨q2.1, Nat.le_trans hl q2.2⟩, q3⟩
/-- a store into the replacer's own block -/
theorem RepAt.set {w : World} {G R i : Nat} {u : Value} (h : RepAt (R + 1) w G) : RepAt (R + 1) (w.setCell ⟨R, i, none⟩ u) G := h.kept fun k b hk hb => (Below.heap_setCell _ _ _ _ (by dsimp only; omega)).trans hb
set_option maxRecDepth 100000 in
set_option maxHeartbeats 4000000 in
theorem newrep_any (w : World) (B c : Nat) (hB : ∀ (j : Nat) x, pairsL[j]? = some x → w.cell? ⟨B, j, none⟩ = some (.string ⟨x.toArray⟩)) :
    Calls Try.prog 23 #[.slice (some ⟨B, 0, none⟩) 6 c] w fun e w' => ∃ R, e = .returned (.pointer (some ⟨R, 0, none⟩)) ∧ NewRep w' R 0 0 ∧ w.heap.size ≤ R ∧ Below w.heap.size w w' := by
  obtain ⟨i0, hi, hz0, hz1, hz2⟩ := info_parts (show (Try.prog.info? 9).map (fun i => (i.zero, i.size, i.bytes)) = some (some (.string ⟨#[]⟩), 1, 16) by kernel_rfl)
  go_enter Try.func23, Try.ntmps23
  go_wp2_with (at_builtin; refine wpList_append_own_at _ rfl (.const (.slice none 0 0)) (.tmp 8) 74 rfl w.heap.size 9 i0 (.string ⟨#[]⟩) 1 16 Try.underlying74 hi hz0 hz1 hz2 rfl (by decide) (.slice none 0 0) 0 [] rfl (World.ownsRow_nil _ _ _ _) ⟨B, 0, none⟩ 6 c (pairsL.map fun x => .string ⟨x.toArray⟩) rfl rfl (fun j u hu => by
    rw [List.getElem?_map] at hu
    cases hx : pairsL[j]? with
    | none => rw [hx] at hu; cases hu
    | some x => rw [hx] at hu; cases hu; rw [addr_add, Nat.zero_add]; exact hB j x hx) (by decide) (by decide) (by decide) (Nat.le_refl _) ?_; intro v' w2 hown' hgrow _ hat; obtain ⟨O, cap, rfl⟩ := own_some (n := 6) hown' (by decide))
  have hb2 : Below w.heap.size w w2 := (Below.refl _ w).grown hgrow (Nat.le_refl _) (fun k e => by cases e)
  refine bodyPost_ret (v := .pointer (some ⟨w2.heap.size, 0, none⟩)) (by simp [results, Try.results23, go_sem]) rfl ⟨w2.heap.size, rfl, ⟨O, cap, Row.new _ _ _, fun j x hx => ?_⟩, hb2.size, new_ hb2 _⟩
  have h1 := hown'.cells rfl j (.string ⟨x.toArray⟩) (by rw [List.nil_append, List.getElem?_map, hx]; rfl)
  rw [addr_add, Nat.zero_add] at h1
  exact cellM h1 (new_ (Below.refl _ _) _)
set_option maxRecDepth 100000 in
set_option maxHeartbeats 4000000 in
/-- buildOnce -/
theorem once_any (w : World) (R : Nat) (d m : Int) (h : NewRep w R d m) :
    Calls Try.prog 33 #[.pointer (some ⟨R, 0, none⟩)] w fun e w' => e = .returned (.tuple #[]) ∧ OldRep w' R d m ∧ Below R w w' := by
  obtain ⟨O, c, hr, hO⟩ := h
  have HR := Lib.hid hr
  have hlt := hr.lt
  go_enter Try.func33, Try.ntmps33
  go_wp2_with (go_at_call 40; (refine (build_any w R O c _ _ _ _ hr hO).mono ?_; rintro e w1 ⟨G, rfl, hg, hb⟩; have HG := Lib.hid hg; have HB := Lib.hid hb; have hr1 := HR.out.below hb hlt; have HR1 := Lib.hid hr1; have f3 := hr1.free 3; have f4 := hr1.free 4; have c3 := hr1.cell (i := 3) (v := .nilIface) rfl; have c4 := hr1.cell (i := 4) (v := .slice (some ⟨O, 0, none⟩) 6 c) rfl; have hlt1 := hr1.lt; clear hr1 hg hb))
  go_end0
  refine ⟨rfl, ⟨G, (HR1.out.set 3 _).set 4 _, ((HG.out.lower hlt).set).set⟩, (HB.out.mono (Nat.le_of_lt hlt)).trans ((below_set _ (Nat.le_refl _)).trans (below_set _ (Nat.le_refl _)))⟩
end Go.Proofs.Ythkeggmloajapaa
