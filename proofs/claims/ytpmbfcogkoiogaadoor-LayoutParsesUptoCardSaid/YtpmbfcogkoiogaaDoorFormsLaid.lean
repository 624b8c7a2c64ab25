/- The forms of all kinds, as the listed variable holds them. -/
import Derived.Test.YtpmbfcogkoiogaaDoorLayFnA
import Derived.LaidMore
import Derived.ProofKit
import Derived.OpenShut
import Derived.Stop.Joined
import Derived.Test.YtpmbfcogkoiogaaDoorStrA
namespace Go.Proofs.YtpmbfcogkoiogaaDoor
open Go.ChangeShapes Go.WideShapes Go.ChangeAt Go.RowKit
theorem gForms : Tryd.prog.globalNamed "apodixis/layout.forms" = some 1 := by kernel_rfl
theorem tForms : (Tryd.prog.globals[1]?).map (·.type) = some 127 := by kernel_rfl
section
variable {H : Type} {enc : TypeId × Value → H} {w : World} {base : Nat} {spare : Nat → Bool} {held : Bool}
set_option maxRecDepth 100000 in
theorem form_cells {fuel : Nat} {cs : List Value} {x : DataW H × List MemPlace} {s : List UInt8} {b : Bool} {a c : Int} (h : DataW.trod enc Tryd.prog w base spare held fuel 126 cs = some x) (hx : x.1 = .agg [.lit (.string s), .lit (.bool b), .lit (.int .i64 a), .lit (.int .i64 c)]) :
    cs = [.string ⟨s.toArray⟩, .bool b, .int .i64 a, .int .i64 c] := by
  have hc : Tryd.prog.cellsOf 126 = 4 := by kernel_rfl
  have hc0 : Tryd.prog.cellsOf 9 = 1 := by kernel_rfl
  have hc1 : Tryd.prog.cellsOf 4 = 1 := by kernel_rfl
  have hc2 : Tryd.prog.cellsOf 3 = 1 := by kernel_rfl
  obtain ⟨xs, m, _, hxx, hlen, hlen', hf⟩ := DataW.trod_struct Tryd.underlying126 h
  rw [hc] at hlen
  match cs, hlen with
  | [v0, v1, v2, v3], _ =>
    have hl' : xs.length = 4 := hlen'
    match xs, hl' with
    | [y0, y1, y2, y3], _ =>
      have f0 := hf 0 _ rfl
      have f1 := hf 1 _ rfl
      have f2 := hf 2 _ rfl
      have f3 := hf 3 _ rfl
      obtain ⟨s', g0, g0', _⟩ := DataW.trod_string Tryd.underlying9 (show DataW.trod enc Tryd.prog w base spare held m 9 _ = some y0 from f0)
      obtain ⟨b', g1, g1'⟩ := DataW.trod_bool Tryd.underlying4 (show DataW.trod enc Tryd.prog w base spare held m 4 _ = some y1 from f1)
      obtain ⟨a', g2, g2', _⟩ := DataW.trod_int Tryd.underlying3 (show DataW.trod enc Tryd.prog w base spare held m 3 _ = some y2 from f2)
      obtain ⟨c', g3, g3', _⟩ := DataW.trod_int Tryd.underlying3 (show DataW.trod enc Tryd.prog w base spare held m 3 _ = some y3 from f3)
      change List.take (Tryd.prog.cellsOf 9) (List.drop 0 [v0, v1, v2, v3]) = _ at g0
      change List.take (Tryd.prog.cellsOf 4) (List.drop 1 [v0, v1, v2, v3]) = _ at g1
      change List.take (Tryd.prog.cellsOf 3) (List.drop 2 [v0, v1, v2, v3]) = _ at g2
      change List.take (Tryd.prog.cellsOf 3) (List.drop 3 [v0, v1, v2, v3]) = _ at g3
      rw [hc0] at g0
      rw [hc1] at g1
      rw [hc2] at g2 g3
      simp at g0 g1 g2 g3
      subst g0 g1 g2 g3
      rw [hxx] at hx
      simp [g0', g1', g2', g3'] at hx
      obtain ⟨h0, h1, h2, h3⟩ := hx
      subst h1 h2 h3
      have e0 : s' = ⟨s.toArray⟩ := by
        subst h0
        rfl
      rw [e0]
end
set_option maxRecDepth 100000 in
theorem forms_of_laid {W : World} (h : laidMetH Tryd.prog [("apodixis/layout.forms", Rows.laid_apodixis_layout_forms)] W) : FormsAt W := by
  rw [MakeChecks.laidMetH_plain _ _ _ (by kernel_rfl)] at h
  obtain ⟨ps, ⟨g0, t0, cs0, f0, p0, q0, hg0, ht0, hv0, hd0, _, _⟩, _, _⟩ := h
  obtain rfl := Option.some.inj (gForms.symm.trans hg0)
  obtain rfl := Option.some.inj (tForms.symm.trans ht0)
  obtain ⟨xs, m1, _, hx1, hlen, hn3, hel⟩ := DataW.trod_array Tryd.underlying127 hd0
  have hc : Tryd.prog.cellsOf 126 = 4 := by kernel_rfl
  have hm : xs.map (·.1) = [.agg [.lit (.string []), .lit (.bool false), .lit (.int .i64 0), .lit (.int .i64 0)], .agg [.lit (.string [36, 99]), .lit (.bool false), .lit (.int .i64 1), .lit (.int .i64 200)], .agg [.lit (.string [36, 118]), .lit (.bool false), .lit (.int .i64 1), .lit (.int .i64 200)], .agg [.lit (.string [36, 102]), .lit (.bool true), .lit (.int .i64 2), .lit (.int .i64 2)], .agg [.lit (.string [36, 101]), .lit (.bool true), .lit (.int .i64 1), .lit (.int .i64 200)], .agg [.lit (.string [36, 100]), .lit (.bool false), .lit (.int .i64 1), .lit (.int .i64 200)], .agg [.lit (.string [36, 97]), .lit (.bool true), .lit (.int .i64 1), .lit (.int .i64 200)], .agg [.lit (.string [36, 112]), .lit (.bool true), .lit (.int .i64 1), .lit (.int .i64 200)], .agg [.lit (.string [36, 123]), .lit (.bool false), .lit (.int .i64 0), .lit (.int .i64 0)], .agg [.lit (.string [36, 125]), .lit (.bool false), .lit (.int .i64 0), .lit (.int .i64 0)]] := by
    injection hx1 with h1 _
    injection h1 with h1
    exact h1.symm
  intro k hk
  have hk' : (xs.map (·.1))[k]? = some (.agg [.lit (.string (kwN k)), .lit (.bool (labS k)), .lit (.int .i64 (formL k : Nat)), .lit (.int .i64 (formM k : Nat))]) := by
    rw [hm]
    rcases (show k = 0 ∨ k = 1 ∨ k = 2 ∨ k = 3 ∨ k = 4 ∨ k = 5 ∨ k = 6 ∨ k = 7 ∨ k = 8 ∨ k = 9 by omega) with rfl | rfl | rfl | rfl | rfl | rfl | rfl | rfl | rfl | rfl <;> rfl
  rw [List.getElem?_map] at hk'
  obtain ⟨y, hy, hyx⟩ := Option.map_eq_some_iff.1 hk'
  have he := hel k (by omega)
  rw [hy] at he
  have hcs := form_cells he hyx
  rw [hc] at hcs
  have cell : ∀ j u, [Value.string ⟨(kwN k).toArray⟩, .bool (labS k), .int .i64 (formL k : Nat), .int .i64 (formM k : Nat)][j]? = some u → W.cell? ⟨1, k * 4 + j, none⟩ = some u := by
    intro j u hu
    have hj : j < 4 := (List.getElem?_eq_some_iff.1 hu).1
    rw [← hcs, List.getElem?_take, if_pos hj, List.getElem?_drop] at hu
    rw [World.var?_cell hg0 hv0 (k * 4 + j), ← Array.getElem?_toList]
    exact hu
  exact ⟨by simpa using cell 0 _ rfl, cell 1 _ rfl, cell 2 _ rfl, cell 3 _ rfl⟩
end Go.Proofs.YtpmbfcogkoiogaaDoor
