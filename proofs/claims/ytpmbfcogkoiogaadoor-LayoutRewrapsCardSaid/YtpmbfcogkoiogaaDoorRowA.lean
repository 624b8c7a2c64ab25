/- From a law's walk to its row with listed variables: the bound, the variables, the shape of the world. The forms of all kinds, as the listed variable holds them. A world for the witness of a row that lists layout.forms. -/
import Derived.Test.YtpmbfcogkoiogaaDoorLawA
import Derived.Deep.DeepHandedRow
import Derived.Test.YtpmbfcogkoiogaaDoorLayFnA
import Derived.LaidMore
import Derived.ProofKit
import Derived.OpenShut
import Derived.Stop.Joined
import Derived.Test.YtpmbfcogkoiogaaDoorStrA
section
namespace Go.Proofs.YtpmbfcogkoiogaaDoor
open Go.ChangeShapes Go.WideShapes Go.ChangeAt Go.RowKit
/-- the arguments of a law, as its walk meets them; what the listed variables hold; MaxLen -/
def LawWalkR (F : FuncId) (ts : List TypeId) (laid : List (String × DataW Unit)) (ok : (H : Type) → List (DataW H) → Prop) : Prop :=
  ∀ (H : Type) (enc : TypeId × Value → H) (W : World) (base : Nat) (args : Array Value) (ds : List (DataW H)) (before : List MemPlace),
    (∀ (j : Nat) t v, ts[j]? = some t → args[j]? = some v → Value.okWide Tryd.prog W .any base t v) → DataW.TrodAll enc Tryd.prog W 0 (fun _ => true) true ts args.toList ds before → (∀ x ∈ before, x.block < W.heap.size) →
    (DataW.weightsEach Tryd.prog ts ds).all (· ≤ reachBytes) = true → laidMetH Tryd.prog laid W → MaxAt W → ok H ds →
    Calls Tryd.prog F args W fun e W' => e = .returned (.bool true) ∧ Below W.heap.size W W'
set_option maxRecDepth 100000 in
theorem law_row {os : Os} (started : os.Started) {H : Type} {enc : TypeId × Value → H} {F : FuncId} {fn : Func} {cs : ChangeSpec} {s : OpenSpec} {n : Nat} {laid : List (String × DataW Unit)} (I : Stop.Interp)
    (noInit : Tryd.checked.prog.inits.idxOf? F = none) (hfn : Tryd.checked.prog.funcs[F]? = some fn) (hs : IsLaw cs n) (hrs : fn.resultTypes = #[4]) (hlen : fn.params.toList.length = n)
    (hrd : ∀ t ∈ fn.params.toList, Tryd.prog.readableRec t = true ∧ t < Tryd.prog.types.size)
    (hv : s.vars = cs.vars) (hvt : s.bare.plain.varTypes Tryd.checked.prog = []) (hpost : (s.at I).post enc Tryd.prog fn false true false false = cs.post enc Tryd.prog fn false true false false)
    {ok : (H : Type) → List (DataW H) → Prop} (hok : ∀ ds : List (DataW H), (∀ k, s.cond = some k → k H ds = true) → ok H ds)
    (witness : ∃ (w : World) (tape : Tape) (i : Input), w.os = os ∧ (w.forCall tape i).Shaped Tryd.checked.prog ∧ i.vars = [] ∧ Input.okWide Tryd.checked.prog (w.forCall tape i) .any w.heap.size F i ∧
      s.preRow enc Tryd.checked.prog fn [] false laid (w.forCall tape i).memory i.args ∧ (({} : Assume)).holds Tryd.checked.prog (lone (Frame.enter Tryd.checked.prog F i.args .normal) [] (w.forCall tape i)))
    (walk : LawWalkR F fn.params.toList laid ok) :
    ReturnsInHanded {} Tryd.checked os F .any (s.preRow enc Tryd.prog fn [] false laid) ((s.at I).post enc Tryd.prog fn false true false false) := by
  refine returnsInHanded_of_row (C := Tryd.checked) (s := s) ownK started noInit hfn witness ?_
  intro W base args ds gs before hval hW _ hk hsz hL hsh _
  have hW' : DataW.Whole enc Tryd.prog fn.params.toList cs.vars false W args.toList ds gs before := hv ▸ hW
  have hlt : ∀ x ∈ before, x.block < W.heap.size := fun x hx => hW'.lt x hx
  obtain ⟨p, q, hA, hV, hp, hz, hn⟩ := id hW'
  rw [hs.1] at hV
  obtain ⟨rfl, rfl⟩ := trodVars_none hV
  rw [hvt, List.append_nil, List.append_nil] at hsz
  rw [List.append_nil] at hk
  refine (walk H enc W base args ds p (fun j t v ht hv => hval j t v (by rw [← Array.getElem?_toList]; exact ht) hv) hA (fun x hx => hlt x (by rw [hp]; simpa using hx)) hsz hL (MaxAt.of_shaped hsh) (hok ds hk)).mono ?_
  rintro e W' ⟨rfl, hb⟩
  have hp := law_post hs hrs hlen hrd hW' hb
  rw [← hpost] at hp
  exact ⟨_, rfl, hp⟩
end Go.Proofs.YtpmbfcogkoiogaaDoor
end
section
namespace Go.Proofs.YtpmbfcogkoiogaaDoor
open Go.ChangeShapes Go.WideShapes Go.ChangeAt Go.RowKit
theorem gForms : Tryd.prog.globalNamed "apodixis/layout.forms" = some 1 := by kernel_rfl
theorem tForms : (Tryd.prog.globals[1]?).map (·.type) = some 127 := by kernel_rfl
section
variable {H : Type} {enc : TypeId × Value → H} {w : World} {base : Nat} {spare : Nat → Bool} {held : Bool}
set_option maxRecDepth 100000 in
theorem form_cells {fuel : Nat} {cs : List Value} {x : DataW H × List MemPlace} {s : List UInt8} {b : Bool} {a c : Int} (h : DataW.trod enc Tryd.prog w base spare held fuel 126 cs = some x) (hx : x.1 = .agg [.lit (.string s), .lit (.bool b), .lit (.int .i64 a), .lit (.int .i64 c)]) :
    cs = [.string ⟨s.toArray⟩, .bool b, .int .i64 a, .int .i64 c] := by
  have hc : Tryd.prog.cellsOf 126 = 4 := by kernel_rfl
  have hc0 : Tryd.prog.cellsOf 9 = 1 := by kernel_rfl
  have hc1 : Tryd.prog.cellsOf 4 = 1 := by kernel_rfl
  have hc2 : Tryd.prog.cellsOf 3 = 1 := by kernel_rfl
  obtain ⟨xs, m, _, hxx, hlen, hlen', hf⟩ := DataW.trod_struct Tryd.underlying126 h
  rw [hc] at hlen
  match cs, hlen with
  | [v0, v1, v2, v3], _ =>
    have hl' : xs.length = 4 := hlen'
    match xs, hl' with
    | [y0, y1, y2, y3], _ =>
      have f0 := hf 0 _ rfl
      have f1 := hf 1 _ rfl
      have f2 := hf 2 _ rfl
      have f3 := hf 3 _ rfl
      obtain ⟨s', g0, g0', _⟩ := DataW.trod_string Tryd.underlying9 (show DataW.trod enc Tryd.prog w base spare held m 9 _ = some y0 from f0)
      obtain ⟨b', g1, g1'⟩ := DataW.trod_bool Tryd.underlying4 (show DataW.trod enc Tryd.prog w base spare held m 4 _ = some y1 from f1)
      obtain ⟨a', g2, g2', _⟩ := DataW.trod_int Tryd.underlying3 (show DataW.trod enc Tryd.prog w base spare held m 3 _ = some y2 from f2)
      obtain ⟨c', g3, g3', _⟩ := DataW.trod_int Tryd.underlying3 (show DataW.trod enc Tryd.prog w base spare held m 3 _ = some y3 from f3)
      change List.take (Tryd.prog.cellsOf 9) (List.drop 0 [v0, v1, v2, v3]) = _ at g0
      change List.take (Tryd.prog.cellsOf 4) (List.drop 1 [v0, v1, v2, v3]) = _ at g1
      change List.take (Tryd.prog.cellsOf 3) (List.drop 2 [v0, v1, v2, v3]) = _ at g2
      change List.take (Tryd.prog.cellsOf 3) (List.drop 3 [v0, v1, v2, v3]) = _ at g3
      rw [hc0] at g0
      rw [hc1] at g1
      rw [hc2] at g2 g3
      simp at g0 g1 g2 g3
      subst g0 g1 g2 g3
      rw [hxx] at hx
      simp [g0', g1', g2', g3'] at hx
      obtain ⟨h0, h1, h2, h3⟩ := hx
      subst h1 h2 h3
      have e0 : s' = ⟨s.toArray⟩ := by
        subst h0
        rfl
      rw [e0]
end
set_option maxRecDepth 100000 in
theorem forms_of_laid {W : World} (h : laidMetH Tryd.prog [("apodixis/layout.forms", Rows.laid_apodixis_layout_forms)] W) : FormsAt W := by
  rw [MakeChecks.laidMetH_plain _ _ _ (by kernel_rfl)] at h
  obtain ⟨ps, ⟨g0, t0, cs0, f0, p0, q0, hg0, ht0, hv0, hd0, _, _⟩, _, _⟩ := h
  obtain rfl := Option.some.inj (gForms.symm.trans hg0)
  obtain rfl := Option.some.inj (tForms.symm.trans ht0)
  obtain ⟨xs, m1, _, hx1, hlen, hn3, hel⟩ := DataW.trod_array Tryd.underlying127 hd0
  have hc : Tryd.prog.cellsOf 126 = 4 := by kernel_rfl
  have hm : xs.map (·.1) = [.agg [.lit (.string []), .lit (.bool false), .lit (.int .i64 0), .lit (.int .i64 0)], .agg [.lit (.string [36, 99]), .lit (.bool false), .lit (.int .i64 1), .lit (.int .i64 200)], .agg [.lit (.string [36, 118]), .lit (.bool false), .lit (.int .i64 1), .lit (.int .i64 200)], .agg [.lit (.string [36, 102]), .lit (.bool true), .lit (.int .i64 2), .lit (.int .i64 2)], .agg [.lit (.string [36, 101]), .lit (.bool true), .lit (.int .i64 1), .lit (.int .i64 200)], .agg [.lit (.string [36, 100]), .lit (.bool false), .lit (.int .i64 1), .lit (.int .i64 200)], .agg [.lit (.string [36, 97]), .lit (.bool true), .lit (.int .i64 1), .lit (.int .i64 200)], .agg [.lit (.string [36, 112]), .lit (.bool true), .lit (.int .i64 1), .lit (.int .i64 200)], .agg [.lit (.string [36, 123]), .lit (.bool false), .lit (.int .i64 0), .lit (.int .i64 0)], .agg [.lit (.string [36, 125]), .lit (.bool false), .lit (.int .i64 0), .lit (.int .i64 0)]] := by
    injection hx1 with h1 _
    injection h1 with h1
    exact h1.symm
  intro k hk
  have hk' : (xs.map (·.1))[k]? = some (.agg [.lit (.string (kwN k)), .lit (.bool (labS k)), .lit (.int .i64 (formL k : Nat)), .lit (.int .i64 (formM k : Nat))]) := by
    rw [hm]
    rcases (show k = 0 ∨ k = 1 ∨ k = 2 ∨ k = 3 ∨ k = 4 ∨ k = 5 ∨ k = 6 ∨ k = 7 ∨ k = 8 ∨ k = 9 by omega) with rfl | rfl | rfl | rfl | rfl | rfl | rfl | rfl | rfl | rfl <;> rfl
  rw [List.getElem?_map] at hk'
  obtain ⟨y, hy, hyx⟩ := Option.map_eq_some_iff.1 hk'
  have he := hel k (by omega)
  rw [hy] at he
  have hcs := form_cells he hyx
  rw [hc] at hcs
  have cell : ∀ j u, [Value.string ⟨(kwN k).toArray⟩, .bool (labS k), .int .i64 (formL k : Nat), .int .i64 (formM k : Nat)][j]? = some u → W.cell? ⟨1, k * 4 + j, none⟩ = some u := by
    intro j u hu
    have hj : j < 4 := (List.getElem?_eq_some_iff.1 hu).1
    rw [← hcs, List.getElem?_take, if_pos hj, List.getElem?_drop] at hu
    rw [World.var?_cell hg0 hv0 (k * 4 + j), ← Array.getElem?_toList]
    exact hu
  exact ⟨by simpa using cell 0 _ rfl, cell 1 _ rfl, cell 2 _ rfl, cell 3 _ rfl⟩
end Go.Proofs.YtpmbfcogkoiogaaDoor
end
section
namespace Go.Proofs.YtpmbfcogkoiogaaDoor
open Go.ChangeShapes Go.WideShapes Go.ChangeAt Go.RowKit
/-- a world for the witness: the settled one, layout.forms holding what its initialiser lays -/
noncomputable def formsWorld (os : Os) : World :=
  { World.holding Tryd.prog os ⟨#[], #[], []⟩ with heap := (World.holding Tryd.prog os ⟨#[], #[], []⟩).heap.modify 1 fun
      | .cells _ t frozen => .cells #[.string ⟨#[]⟩, .bool false, .int .i64 0, .int .i64 0, .string ⟨#[36, 99]⟩, .bool false, .int .i64 1, .int .i64 200, .string ⟨#[36, 118]⟩, .bool false, .int .i64 1, .int .i64 200, .string ⟨#[36, 102]⟩, .bool true, .int .i64 2, .int .i64 2, .string ⟨#[36, 101]⟩, .bool true, .int .i64 1, .int .i64 200, .string ⟨#[36, 100]⟩, .bool false, .int .i64 1, .int .i64 200, .string ⟨#[36, 97]⟩, .bool true, .int .i64 1, .int .i64 200, .string ⟨#[36, 112]⟩, .bool true, .int .i64 1, .int .i64 200, .string ⟨#[36, 123]⟩, .bool false, .int .i64 0, .int .i64 0, .string ⟨#[36, 125]⟩, .bool false, .int .i64 0, .int .i64 0] t frozen
      | o => o }
end Go.Proofs.YtpmbfcogkoiogaaDoor
end
