/- From a law's walk to its row with listed variables: the bound, the variables, the shape of the world. -/
import Derived.Test.YtpmbfcogkoiogaaDoorLaw
import Derived.Test.YtpmbfcogkoiogaaDoorLawShaped
import Derived.Deep.DeepHandedRow
namespace Go.Proofs.YtpmbfcogkoiogaaDoor
open Go.ChangeShapes Go.WideShapes Go.ChangeAt Go.RowKit
/-- the arguments of a law, as its walk meets them; what the listed variables hold; MaxLen -/
def LawWalkR (F : FuncId) (ts : List TypeId) (laid : List (String × DataW Unit)) (ok : (H : Type) → List (DataW H) → Prop) : Prop :=
  ∀ (H : Type) (enc : TypeId × Value → H) (W : World) (base : Nat) (args : Array Value) (ds : List (DataW H)) (before : List MemPlace),
    (∀ (j : Nat) t v, ts[j]? = some t → args[j]? = some v → Value.okWide Tryd.prog W .any base t v) → DataW.TrodAll enc Tryd.prog W 0 (fun _ => true) true ts args.toList ds before → (∀ x ∈ before, x.block < W.heap.size) →
    (DataW.weightsEach Tryd.prog ts ds).all (· ≤ reachBytes) = true → laidMetH Tryd.prog laid W → MaxAt W → ok H ds →
    Calls Tryd.prog F args W fun e W' => e = .returned (.bool true) ∧ Below W.heap.size W W'
set_option maxRecDepth 100000 in
theorem law_row {os : Os} (started : os.Started) {H : Type} {enc : TypeId × Value → H} {F : FuncId} {fn : Func} {cs : ChangeSpec} {s : OpenSpec} {n : Nat} {laid : List (String × DataW Unit)} (I : Stop.Interp)
    (noInit : Tryd.checked.prog.inits.idxOf? F = none) (hfn : Tryd.checked.prog.funcs[F]? = some fn) (hs : IsLaw cs n) (hrs : fn.resultTypes = #[4]) (hlen : fn.params.toList.length = n)
    (hrd : ∀ t ∈ fn.params.toList, Tryd.prog.readableRec t = true ∧ t < Tryd.prog.types.size)
    (hv : s.vars = cs.vars) (hvt : s.bare.plain.varTypes Tryd.checked.prog = []) (hpost : (s.at I).post enc Tryd.prog fn false true false false = cs.post enc Tryd.prog fn false true false false)
    {ok : (H : Type) → List (DataW H) → Prop} (hok : ∀ ds : List (DataW H), (∀ k, s.cond = some k → k H ds = true) → ok H ds)
    (witness : ∃ (w : World) (tape : Tape) (i : Input), w.os = os ∧ (w.forCall tape i).Shaped Tryd.checked.prog ∧ i.vars = [] ∧ Input.okWide Tryd.checked.prog (w.forCall tape i) .any w.heap.size F i ∧
      s.preRow enc Tryd.checked.prog fn [] false laid (w.forCall tape i).memory i.args ∧ (({} : Assume)).holds Tryd.checked.prog (lone (Frame.enter Tryd.checked.prog F i.args .normal) [] (w.forCall tape i)))
    (walk : LawWalkR F fn.params.toList laid ok) :
    ReturnsInHanded {} Tryd.checked os F .any (s.preRow enc Tryd.prog fn [] false laid) ((s.at I).post enc Tryd.prog fn false true false false) := by
  refine returnsInHanded_of_row (C := Tryd.checked) (s := s) ownK started noInit hfn witness ?_
  intro W base args ds gs before hval hW _ hk hsz hL hsh _
  have hW' : DataW.Whole enc Tryd.prog fn.params.toList cs.vars false W args.toList ds gs before := hv ▸ hW
  have hlt : ∀ x ∈ before, x.block < W.heap.size := fun x hx => hW'.lt x hx
  obtain ⟨p, q, hA, hV, hp, hz, hn⟩ := id hW'
  rw [hs.1] at hV
  obtain ⟨rfl, rfl⟩ := trodVars_none hV
  rw [hvt, List.append_nil, List.append_nil] at hsz
  rw [List.append_nil] at hk
  refine (walk H enc W base args ds p (fun j t v ht hv => hval j t v (by rw [← Array.getElem?_toList]; exact ht) hv) hA (fun x hx => hlt x (by rw [hp]; simpa using hx)) hsz hL (MaxAt.of_shaped hsh) (hok ds hk)).mono ?_
  rintro e W' ⟨rfl, hb⟩
  have hp := law_post hs hrs hlen hrd hW' hb
  rw [← hpost] at hp
  exact ⟨_, rfl, hp⟩
end Go.Proofs.YtpmbfcogkoiogaaDoor
