/- From a law's walk to the statement on its row: the call returns true, and whatever lay before lies as it lay; so the arguments read as they did. From a law's walk to its statement, where the walk asks that the library's variable MaxLen holds some number. -/
import Derived.Test.YthkeggmloajapaaRows
import Derived.ProofKit
import Derived.OpenShut
import Derived.SizedLaws
import Derived.Deep.CondSized
import Derived.HandedShaped
import Derived.Shelf.Vars
section
namespace Go.Proofs.Ythkeggmloajapaa
open Go.ChangeShapes Go.WideShapes Go.ChangeAt Go.RowKit
theorem ownK : ownKnob Try.prog.godebug = none := by kernel_rfl
theorem laidOutP : laidOutB Try.prog = true := by kernel_rfl

theorem trodAll_below {H : Type} {enc : TypeId × Value → H} {W W' : World} (hb : Below W.heap.size W W') : ∀ (ts : List TypeId) (vs : List Value) (ds : List (DataW H)) (p : List MemPlace),
    (∀ t ∈ ts, Try.prog.readableRec t = true ∧ t < Try.prog.types.size) → DataW.TrodAll enc Try.prog W 0 (fun _ => true) true ts vs ds p → (∀ x ∈ p, x.block < W.heap.size) →
    DataW.TrodAll enc Try.prog W' 0 (fun b => decide (b < W.heap.size)) true ts vs ds p := by
  intro ts
  induction ts with
  | nil =>
    intro vs ds p _ h _
    obtain ⟨rfl, rfl, rfl⟩ := trodAll_nil h
    exact trodAll_mk0
  | cons t ts ih =>
    intro vs ds p hr h hlt
    obtain ⟨v, vs', d, ds', p1, p2, rfl, rfl, rfl, h1, h2⟩ := trodAll_cons h
    have hr1 := hr t (List.mem_cons_self ..)
    exact trodAll_cons_mk (Below.trod laidOutP hr1.1 hr1.2 h1 hb fun x hx => hlt x (List.mem_append.2 (.inl hx))) (ih vs' ds' p2 (fun t' ht => hr t' (List.mem_cons_of_mem _ ht)) h2 fun x hx => hlt x (List.mem_append.2 (.inr hx)))

/-- what a law's specification says: true, the arguments as they were -/
def IsLaw (s : ChangeSpec) (n : Nat) : Prop := s.vars = [] ∧ ∀ (H : Type) (ds : List (DataW H)), ds.length = n → (s.fn H ds).results = [.lit (.bool true)] ∧ (s.fn H ds).args = ds ∧ (s.fn H ds).vars = []

theorem law_post {H : Type} {enc : TypeId × Value → H} {fn : Func} {s : ChangeSpec} {W W' : World} {args : Array Value} {ds gs : List (DataW H)} {before : List MemPlace} {n : Nat}
    (hs : IsLaw s n) (hrs : fn.resultTypes = #[4]) (hlen : fn.params.toList.length = n) (hrd : ∀ t ∈ fn.params.toList, Try.prog.readableRec t = true ∧ t < Try.prog.types.size)
    (hW : DataW.Whole enc Try.prog fn.params.toList s.vars false W args.toList ds gs before) (hb : Below W.heap.size W W') :
    s.post enc Try.prog fn false true false false W args (.bool true) W' := by
  have hlt : ∀ x ∈ before, x.block < W.heap.size := fun x hx => hW.lt x hx
  obtain ⟨hv, hf⟩ := hs
  obtain ⟨p, q, hA, hV, hp, hz, hn⟩ := hW
  rw [hv] at hV
  obtain ⟨rfl, rfl⟩ := trodVars_none hV
  have hdl : ds.length = n := by
    have : ∀ (ts : List TypeId) (vs : List Value) (ds : List (DataW H)) (p : List MemPlace), DataW.TrodAll enc Try.prog W 0 (fun _ => true) true ts vs ds p → ds.length = ts.length := by
      intro ts
      induction ts with
      | nil => intro vs ds p h; obtain ⟨_, rfl, _⟩ := trodAll_nil h; rfl
      | cons t ts ih => intro vs ds p h; obtain ⟨v, vs', d, ds', p1, p2, rfl, rfl, rfl, h1, h2⟩ := trodAll_cons h; simp [ih _ _ _ h2]
    rw [this _ _ _ _ hA, hlen]
  obtain ⟨h1, h2, h3⟩ := hf H ds hdl
  refine ⟨ds, [], before, [], p, [], ⟨p, [], hA, by rw [hv]; exact hV, hp, hz, hn⟩, ?_, ?_, ?_, hb.frame _, fun h => by cases h⟩
  · rw [List.append_nil, h1, hrs]
    exact trodAll_mk1 (shut_bool Try.underlying4 true)
  · rw [List.append_nil, h2]
    exact trodAll_below hb _ _ _ _ hrd hA fun x hx => hlt x (by rw [hp]; simpa using hx)
  · rw [List.append_nil, h3, hv]
    rfl

/-- the arguments of a law, as its walk meets them -/
def LawWalk (F : FuncId) (ts : List TypeId) (ok : (H : Type) → List (DataW H) → Prop) : Prop :=
  ∀ (H : Type) (enc : TypeId × Value → H) (W : World) (base : Nat) (args : Array Value) (ds : List (DataW H)) (before : List MemPlace),
    (∀ (j : Nat) t v, ts[j]? = some t → args[j]? = some v → Value.okWide Try.prog W .any base t v) → DataW.TrodAll enc Try.prog W 0 (fun _ => true) true ts args.toList ds before → (∀ x ∈ before, x.block < W.heap.size) →
    (DataW.weightsEach Try.prog ts ds).all (· ≤ reachBytes) = true → ok H ds →
    Calls Try.prog F args W fun e W' => e = .returned (.bool true) ∧ Below W.heap.size W W'

set_option maxRecDepth 100000 in
theorem law_returns {os : Os} (started : os.Started) {H : Type} {enc : TypeId × Value → H} {F : FuncId} {fn : Func} {s : ChangeSpec} {n : Nat}
    (noInit : Try.checked.prog.inits.idxOf? F = none) (hfn : Try.checked.prog.funcs[F]? = some fn) (hs : IsLaw s n) (hrs : fn.resultTypes = #[4]) (hlen : fn.params.toList.length = n)
    (hrd : ∀ t ∈ fn.params.toList, Try.prog.readableRec t = true ∧ t < Try.prog.types.size)
    (witness : ∃ (w : World) (tape : Tape) (i : Input), w.os = os ∧ (w.forCall tape i).Shaped Try.checked.prog ∧ i.vars = [] ∧ Input.okWide Try.checked.prog (w.forCall tape i) .any w.heap.size F i ∧
      s.pre6 enc Try.checked.prog fn [] false (w.forCall tape i).memory i.args ∧ (({} : Assume)).holds Try.checked.prog (lone (Frame.enter Try.checked.prog F i.args .normal) [] (w.forCall tape i)))
    (walk : LawWalk F fn.params.toList fun _ _ => True) :
    ReturnsInHanded {} Try.checked os F .any (s.pre6 enc Try.prog fn [] false) (s.post enc Try.prog fn false true false false) := by
  refine returnsInHanded_of_change_sized (C := Try.checked) ownK started noInit hfn witness ?_
  intro W base args ds gs before hval hW hcnd hsz _
  have hW' := hW
  have hlt : ∀ x ∈ before, x.block < W.heap.size := fun x hx => hW.lt x hx
  obtain ⟨p, q, hA, hV, hp, hz, hn⟩ := hW
  rw [hs.1] at hV
  obtain ⟨rfl, rfl⟩ := trodVars_none hV
  have hvt : s.plain.varTypes Try.checked.prog = [] := by
    simp [DataSpec.varTypes, ChangeSpec.plain, hs.1]
  rw [hvt, List.append_nil, List.append_nil] at hsz
  refine (walk H enc W base args ds p (fun j t v ht hv => hval j t v (by rw [← Array.getElem?_toList]; exact ht) hv) hA (fun x hx => hlt x (by rw [hp]; simpa using hx)) hsz trivial).mono ?_
  rintro e W' ⟨rfl, hb⟩
  exact ⟨_, rfl, law_post hs hrs hlen hrd hW' hb⟩
end Go.Proofs.Ythkeggmloajapaa
end
section
namespace Go.Proofs.Ythkeggmloajapaa
open Go.ChangeShapes Go.WideShapes Go.ChangeAt Go.RowKit
/-- internal/bytealg.MaxLen holds some number -/
def MaxAt (w : World) : Prop := ∃ m, w.cell? ⟨0, 0, none⟩ = some (.int .i64 m)
theorem MaxAt.below {w w' : World} (h : MaxAt w) (hb : Below w.heap.size w w') : MaxAt w' := by
  obtain ⟨m, hm⟩ := h
  exact ⟨m, (hb.cell (p := ⟨0, 0, none⟩) (block_lt_of_cell hm)).trans hm⟩
theorem MaxAt.of_shaped {w : World} (h : w.ShapedOpen Try.prog) : MaxAt w :=
  cell_of_shapedOpen_int (zero := #[.int .i64 0]) (t := 3) h (of_decide_eq_true (by kernel_rfl)) (by kernel_rfl) rfl (by kernel_rfl) (by kernel_rfl) Try.underlying3
/-- the arguments of a law, as its walk meets them, the variable MaxLen with them -/
def LawWalkM (F : FuncId) (ts : List TypeId) : Prop :=
  ∀ (H : Type) (enc : TypeId × Value → H) (W : World) (base : Nat) (args : Array Value) (ds : List (DataW H)) (before : List MemPlace),
    (∀ (j : Nat) t v, ts[j]? = some t → args[j]? = some v → Value.okWide Try.prog W .any base t v) → DataW.TrodAll enc Try.prog W 0 (fun _ => true) true ts args.toList ds before → (∀ x ∈ before, x.block < W.heap.size) →
    (DataW.weightsEach Try.prog ts ds).all (· ≤ reachBytes) = true → MaxAt W →
    Calls Try.prog F args W fun e W' => e = .returned (.bool true) ∧ Below W.heap.size W W'
set_option maxRecDepth 100000 in
theorem law_returns_m {os : Os} (started : os.Started) {H : Type} {enc : TypeId × Value → H} {F : FuncId} {fn : Func} {s : ChangeSpec} {n : Nat}
    (noInit : Try.checked.prog.inits.idxOf? F = none) (hfn : Try.checked.prog.funcs[F]? = some fn) (hs : IsLaw s n) (hrs : fn.resultTypes = #[4]) (hlen : fn.params.toList.length = n)
    (hrd : ∀ t ∈ fn.params.toList, Try.prog.readableRec t = true ∧ t < Try.prog.types.size)
    (witness : ∃ (w : World) (tape : Tape) (i : Input), w.os = os ∧ (w.forCall tape i).Shaped Try.checked.prog ∧ i.vars = [] ∧ Input.okWide Try.checked.prog (w.forCall tape i) .any w.heap.size F i ∧
      s.pre6 enc Try.checked.prog fn [] false (w.forCall tape i).memory i.args ∧ (({} : Assume)).holds Try.checked.prog (lone (Frame.enter Try.checked.prog F i.args .normal) [] (w.forCall tape i)))
    (walk : LawWalkM F fn.params.toList) :
    ReturnsInHanded {} Try.checked os F .any (s.pre6 enc Try.prog fn [] false) (s.post enc Try.prog fn false true false false) := by
  refine returnsInHanded_of_change_shaped (C := Try.checked) ownK started noInit hfn witness ?_
  intro W base args ds gs before hval hW hcnd hsz hsh _
  have hW' := hW
  have hlt : ∀ x ∈ before, x.block < W.heap.size := fun x hx => hW.lt x hx
  obtain ⟨p, q, hA, hV, hp, hz, hn⟩ := hW
  rw [hs.1] at hV
  obtain ⟨rfl, rfl⟩ := trodVars_none hV
  have hvt : s.plain.varTypes Try.checked.prog = [] := by
    simp [DataSpec.varTypes, ChangeSpec.plain, hs.1]
  rw [hvt, List.append_nil, List.append_nil] at hsz
  refine (walk H enc W base args ds p (fun j t v ht hv => hval j t v (by rw [← Array.getElem?_toList]; exact ht) hv) hA (fun x hx => hlt x (by rw [hp]; simpa using hx)) hsz (MaxAt.of_shaped hsh)).mono ?_
  rintro e W' ⟨rfl, hb⟩
  exact ⟨_, rfl, law_post hs hrs hlen hrd hW' hb⟩
end Go.Proofs.Ythkeggmloajapaa
end
