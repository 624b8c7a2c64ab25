/- From a law's walk to its statement, where the walk asks that the library's variable MaxLen holds some number. -/
import Derived.Test.YtpmbfcogkoiogaaDoorLaw
import Derived.HandedShaped
import Derived.Shelf.Vars
namespace Go.Proofs.YtpmbfcogkoiogaaDoor
open Go.ChangeShapes Go.WideShapes Go.ChangeAt Go.RowKit
/-- internal/bytealg.MaxLen holds some number -/
def MaxAt (w : World) : Prop := ∃ m, w.cell? ⟨3, 0, none⟩ = some (.int .i64 m)
theorem MaxAt.below {w w' : World} (h : MaxAt w) (hb : Below w.heap.size w w') : MaxAt w' := by
  obtain ⟨m, hm⟩ := h
  exact ⟨m, (hb.cell (p := ⟨3, 0, none⟩) (block_lt_of_cell hm)).trans hm⟩
theorem MaxAt.of_shaped {w : World} (h : w.ShapedOpen Tryd.prog) : MaxAt w :=
  cell_of_shapedOpen_int (zero := #[.int .i64 0]) (t := 3) h (of_decide_eq_true (by kernel_rfl)) (by kernel_rfl) rfl (by kernel_rfl) (by kernel_rfl) Tryd.underlying3
/-- the arguments of a law, as its walk meets them, the variable MaxLen with them -/
def LawWalkM (F : FuncId) (ts : List TypeId) : Prop :=
  ∀ (H : Type) (enc : TypeId × Value → H) (W : World) (base : Nat) (args : Array Value) (ds : List (DataW H)) (before : List MemPlace),
    (∀ (j : Nat) t v, ts[j]? = some t → args[j]? = some v → Value.okWide Tryd.prog W .any base t v) → DataW.TrodAll enc Tryd.prog W 0 (fun _ => true) true ts args.toList ds before → (∀ x ∈ before, x.block < W.heap.size) →
    (DataW.weightsEach Tryd.prog ts ds).all (· ≤ reachBytes) = true → MaxAt W →
    Calls Tryd.prog F args W fun e W' => e = .returned (.bool true) ∧ Below W.heap.size W W'
set_option maxRecDepth 100000 in
theorem law_returns_m {os : Os} (started : os.Started) {H : Type} {enc : TypeId × Value → H} {F : FuncId} {fn : Func} {s : ChangeSpec} {n : Nat}
    (noInit : Tryd.checked.prog.inits.idxOf? F = none) (hfn : Tryd.checked.prog.funcs[F]? = some fn) (hs : IsLaw s n) (hrs : fn.resultTypes = #[4]) (hlen : fn.params.toList.length = n)
    (hrd : ∀ t ∈ fn.params.toList, Tryd.prog.readableRec t = true ∧ t < Tryd.prog.types.size)
    (witness : ∃ (w : World) (tape : Tape) (i : Input), w.os = os ∧ (w.forCall tape i).Shaped Tryd.checked.prog ∧ i.vars = [] ∧ Input.okWide Tryd.checked.prog (w.forCall tape i) .any w.heap.size F i ∧
      s.pre6 enc Tryd.checked.prog fn [] false (w.forCall tape i).memory i.args ∧ (({} : Assume)).holds Tryd.checked.prog (lone (Frame.enter Tryd.checked.prog F i.args .normal) [] (w.forCall tape i)))
    (walk : LawWalkM F fn.params.toList) :
    ReturnsInHanded {} Tryd.checked os F .any (s.pre6 enc Tryd.prog fn [] false) (s.post enc Tryd.prog fn false true false false) := by
  refine returnsInHanded_of_change_shaped (C := Tryd.checked) ownK started noInit hfn witness ?_
  intro W base args ds gs before hval hW hcnd hsz hsh _
  have hW' := hW
  have hlt : ∀ x ∈ before, x.block < W.heap.size := fun x hx => hW.lt x hx
  obtain ⟨p, q, hA, hV, hp, hz, hn⟩ := hW
  rw [hs.1] at hV
  obtain ⟨rfl, rfl⟩ := trodVars_none hV
  have hvt : s.plain.varTypes Tryd.checked.prog = [] := by
    simp [DataSpec.varTypes, ChangeSpec.plain, hs.1]
  rw [hvt, List.append_nil, List.append_nil] at hsz
  refine (walk H enc W base args ds p (fun j t v ht hv => hval j t v (by rw [← Array.getElem?_toList]; exact ht) hv) hA (fun x hx => hlt x (by rw [hp]; simpa using hx)) hsz (MaxAt.of_shaped hsh)).mono ?_
  rintro e W' ⟨rfl, hb⟩
  exact ⟨_, rfl, law_post hs hrs hlen hrd hW' hb⟩
end Go.Proofs.YtpmbfcogkoiogaaDoor
