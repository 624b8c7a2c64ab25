/- From a law's walk to its second statement: the arguments hold together at most 1048576 values and letters. -/
import Derived.Test.YtpmbfcogkoiogaaDoorLaw
import Derived.JoinedCond
namespace Go.Proofs.YtpmbfcogkoiogaaDoor
open Go.ChangeShapes Go.WideShapes Go.ChangeAt Go.RowKit
set_option maxRecDepth 100000 in
theorem law_returns_upto {os : Os} (started : os.Started) {H : Type} {enc : TypeId × Value → H} {F : FuncId} {fn : Func} {s : ChangeSpec} {n : Nat} (I : Stop.Interp)
    (noInit : Tryd.checked.prog.inits.idxOf? F = none) (hfn : Tryd.checked.prog.funcs[F]? = some fn) (hs : IsLaw s n) (hrs : fn.resultTypes = #[4]) (hlen : fn.params.toList.length = n)
    (hrd : ∀ t ∈ fn.params.toList, Tryd.prog.readableRec t = true ∧ t < Tryd.prog.types.size)
    (witness : ∃ (w : World) (tape : Tape) (i : Input), w.os = os ∧ (w.forCall tape i).Shaped Tryd.checked.prog ∧ i.vars = [] ∧ Input.okWide Tryd.checked.prog (w.forCall tape i) .any w.heap.size F i ∧
      (Rows.OpenSpec.upto s).pre6 enc Tryd.checked.prog fn [] false (w.forCall tape i).memory i.args ∧ (({} : Assume)).holds Tryd.checked.prog (lone (Frame.enter Tryd.checked.prog F i.args .normal) [] (w.forCall tape i)))
    (walk : LawWalk F fn.params.toList fun _ ds => Rows.uptoBulkAll ds ≤ 1048576) :
    ReturnsInHanded {} Tryd.checked os F .any ((Rows.OpenSpec.upto s).pre6 enc Tryd.prog fn [] false) (((Rows.OpenSpec.upto s).at I).post enc Tryd.prog fn false true false false) := by
  refine returnsInHanded_of_cond_sized (C := Tryd.checked) (s := Rows.OpenSpec.upto s) (k := Rows.uptoSmall) rfl ownK started noInit hfn witness ?_
  intro W base args ds gs before hval hW _ hk hsz _
  have hW' : DataW.Whole enc Tryd.prog fn.params.toList s.vars false W args.toList ds gs before := hW
  have hlt : ∀ x ∈ before, x.block < W.heap.size := fun x hx => hW'.lt x hx
  obtain ⟨p, q, hA, hV, hp, hz, hn⟩ := hW'
  rw [hs.1] at hV
  obtain ⟨rfl, rfl⟩ := trodVars_none hV
  have hvt : (Rows.OpenSpec.upto s).bare.plain.varTypes Tryd.checked.prog = [] := by
    simp [DataSpec.varTypes, ChangeSpec.plain, Rows.OpenSpec.upto, OpenSpec.bare, OpenSpec.ofChange, hs.1]
  rw [hvt, List.append_nil, List.append_nil] at hsz
  rw [List.append_nil] at hk
  refine (walk H enc W base args ds p (fun j t v ht hv => hval j t v (by rw [← Array.getElem?_toList]; exact ht) hv) hA (fun x hx => hlt x (by rw [hp]; simpa using hx)) hsz (of_decide_eq_true hk)).mono ?_
  rintro e W' ⟨rfl, hb⟩
  exact ⟨_, rfl, law_post hs hrs hlen hrd hW hb⟩
theorem bulk_one {H : Type} (d : DataW H) : 1 ≤ Rows.uptoBulk d := by
  cases d with
  | lit l => cases l <;> simp [Rows.uptoBulk]
  | nil => simp [Rows.uptoBulk]
  | ptr d => simp [Rows.uptoBulk]
  | slice elems spare => simp [Rows.uptoBulk]
  | agg parts => simp [Rows.uptoBulk]
  | iface t d => simp [Rows.uptoBulk]
  | map entries => simp [Rows.uptoBulk]
  | held h => simp [Rows.uptoBulk]
end Go.Proofs.YtpmbfcogkoiogaaDoor
