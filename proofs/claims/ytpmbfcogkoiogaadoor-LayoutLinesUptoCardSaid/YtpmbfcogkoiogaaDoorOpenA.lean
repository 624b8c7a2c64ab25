/- Arguments opened: a struct by value; slices of strings, of ints; the elements of a slice. The numbers of a compressed proof: both functions ask whether they are right. Whether a label in the brackets is that of a mandatory hypothesis. Arguments opened: slices of hypotheses. From a law's walk to its second statement: the arguments hold together at most 1048576 values and letters. Arguments opened, with what their bulk says of the lists that they read as. -/
import Derived.Test.YtpmbfcogkoiogaaDoorBaseA
import Derived.Deep.Strs
import Derived.Lib.SmallJoins
import Derived.Test.YtpmbfcogkoiogaaDoorNamesPlain
import Derived.Test.YtpmbfcogkoiogaaDoorStrA
import Derived.Test.YtpmbfcogkoiogaaDoorLawA
import Derived.JoinedCond
section
namespace Go.Proofs.YtpmbfcogkoiogaaDoor
open Go.ChangeShapes Go.WideShapes Go.Deep Go.Joins
section
variable {H : Type} {enc : TypeId × Value → H} {P : Program} {w : World} {base : Nat} {spare : Nat → Bool} {held : Bool}
theorem open_struct {r : Reach} {b0 : Nat} {t : TypeId} {fs : Array Field} {v : Value} {d : DataW H} {p : List MemPlace} (hs : P.underlying t = some (.struct fs)) (hv : Value.okWide P w r b0 t v) (h : DataW.Trod enc P w base spare held t v d p) :
    ∃ (cs : Array Value) (n : Nat), v = .agg cs ∧ cs.size = P.cellsOf t ∧ ∀ (i : Nat) (f : Field), fs[i]? = some f → ∃ y, DataW.trod enc P w base spare held n f.type ((cs.toList.drop f.offset).take (P.cellsOf f.type)) = some y := by
  obtain ⟨cs, rfl, hsz⟩ := okWide_struct hs hv
  obtain ⟨fuel, hf⟩ := h
  obtain ⟨xs, n, _, _, hl, hlen, hf⟩ := DataW.trod_struct hs hf
  refine ⟨cs, n, rfl, hsz, fun i f hif => ?_⟩
  have hi : i < xs.length := by rw [hlen]; exact (Array.getElem?_eq_some_iff.1 hif).1
  exact ⟨xs[i], by simpa [Value.cells] using (hf i f hif).trans (List.getElem?_eq_getElem hi)⟩
/-- a slice, element by element: its cells, and their reading -/
theorem rows_of_trod {t e : TypeId} {fuel : Nat} {cs : List Value} {x : DataW H × List MemPlace} (ht : P.underlying t = some (.slice e)) (hp : 0 < P.cellsOf e) (h : DataW.trod enc P w base spare held fuel t cs = some x) :
    ∃ (A : Option Addr) (len c n : Nat), cs = [.slice A len c] ∧ len ≤ c ∧ c ≤ maxLen ∧ ∀ k, k < len → ∃ b o cs' y, A = some ⟨b, o, none⟩ ∧ cs'.length = P.cellsOf e ∧ (∀ j u, cs'[j]? = some u → w.cell? ⟨b, o + k * P.cellsOf e + j, none⟩ = some u) ∧ DataW.trod enc P w base spare held n e cs' = some y := by
  rcases open_slice ht h with ⟨rfl, rfl⟩ | ⟨a, len, cap, m, n, D, Pl, rfl, hb, hl, hm, hmm, rfl, hx⟩
  · exact ⟨none, 0, 0, 0, rfl, Nat.le_refl _, Nat.zero_le _, fun k hk => absurd hk (by omega)⟩
  refine ⟨some a, len, cap, n, rfl, hl, hm, fun k hk => ?_⟩
  have hkm : k < m := by rw [hmm]; split <;> omega
  obtain ⟨cs', h1, h2⟩ := hx k hkm
  obtain ⟨_, hlen, hc⟩ := World.cells?_some h1
  obtain ⟨b, o, s⟩ := a
  have hsp : s = none := by
    obtain ⟨cs0, g1, _⟩ := hx 0 (by omega)
    obtain ⟨_, hlen0, hc0⟩ := World.cells?_some g1
    have h0 := hc0 0 hp
    rw [List.getElem?_eq_getElem (by omega)] at h0
    have := World.cell?_spot h0
    simpa [Addr.add] using this
  subst hsp
  refine ⟨b, o, cs', _, rfl, hlen, fun j u hu => ?_, h2⟩
  have hj : j < P.cellsOf e := by rw [← hlen]; exact (List.getElem?_eq_some_iff.1 hu).1
  have := hc j hj
  rw [hu, addr_add, addr_add] at this
  exact this
theorem strs_of_trod {t e : TypeId} {fuel : Nat} {cs : List Value} {x : DataW H × List MemPlace} (ht : P.underlying t = some (.slice e)) (he : P.underlying e = some .string) (hc : P.cellsOf e = 1) (h : DataW.trod enc P w base spare held fuel t cs = some x) :
    ∃ v l, cs = [v] ∧ Strs w v l ∧ ∀ s ∈ l, s.length ≤ maxLen := by
  obtain ⟨A, len, c, n, rfl, hl, hm, hx⟩ := rows_of_trod ht (by omega) h
  obtain ⟨S, hS⟩ := choose_lt (α := List UInt8) (p := fun k s => ∃ b o, A = some ⟨b, o, none⟩ ∧ w.cell? ⟨b, o + k, none⟩ = some (.string ⟨s.toArray⟩) ∧ s.length ≤ maxLen) (n := len) (fun k hk => by
    obtain ⟨b, o, cs', y, hA, hlen, hcell, hy⟩ := hx k hk
    obtain ⟨s, h1, h2, h3⟩ := DataW.trod_string he hy
    refine ⟨s.data.toList, b, o, hA, ?_, by simpa using h3⟩
    have := hcell 0 _ (by rw [h1]; rfl)
    rw [hc] at this
    simpa using this)
  refine ⟨_, (List.range len).map S, rfl, ⟨A, c, by simp, by simpa using hl, by simp; omega, by simp, fun h0 => ?_⟩, ?_⟩
  · simp at h0
    obtain ⟨b, o, hA, _⟩ := hS 0 h0
    refine ⟨b, o, hA, fun j u hu => ?_⟩
    simp [List.getElem?_map] at hu
    obtain ⟨i, hi, rfl⟩ := hu
    obtain ⟨hi2, rfl⟩ := List.getElem?_eq_some_iff.1 hi
    simp at hi2
    obtain ⟨b', o', hA', hcell, _⟩ := hS j hi2
    obtain ⟨rfl, rfl⟩ := (by simpa [hA] using hA' : b = b' ∧ o = o')
    simpa using hcell
  · intro s hs
    obtain ⟨k, hk, rfl⟩ := List.mem_map.1 hs
    exact (hS k (List.mem_range.1 hk)).choose_spec.choose_spec.2.2
theorem ints_of_trod {t e : TypeId} {fuel : Nat} {cs : List Value} {x : DataW H × List MemPlace} (ht : P.underlying t = some (.slice e)) (he : P.underlying e = some (.int .i64)) (hc : P.cellsOf e = 1) (h : DataW.trod enc P w base spare held fuel t cs = some x) :
    ∃ v l, cs = [v] ∧ Ints w v l ∧ ∀ z ∈ l, (Lit.int .i64 z).wf = true := by
  obtain ⟨A, len, c, n, rfl, hl, hm, hx⟩ := rows_of_trod ht (by omega) h
  obtain ⟨S, hS⟩ := choose_lt (α := Int) (p := fun k s => ∃ b o, A = some ⟨b, o, none⟩ ∧ w.cell? ⟨b, o + k, none⟩ = some (.int .i64 s) ∧ (Lit.int .i64 s).wf = true) (n := len) (fun k hk => by
    obtain ⟨b, o, cs', y, hA, hlen, hcell, hy⟩ := hx k hk
    obtain ⟨s, h1, h2, h3⟩ := DataW.trod_int he hy
    refine ⟨s, b, o, hA, ?_, h3⟩
    have := hcell 0 _ (by rw [h1]; rfl)
    rw [hc] at this
    simpa using this)
  refine ⟨_, (List.range len).map S, rfl, ⟨A, c, by simp, by simpa using hl, by simp; omega, by simp, fun h0 => ?_⟩, ?_⟩
  · simp at h0
    obtain ⟨b, o, hA, _⟩ := hS 0 h0
    refine ⟨b, o, hA, fun j u hu => ?_⟩
    simp [List.getElem?_map] at hu
    obtain ⟨i, hi, rfl⟩ := hu
    obtain ⟨hi2, rfl⟩ := List.getElem?_eq_some_iff.1 hi
    simp at hi2
    obtain ⟨b', o', hA', hcell, _⟩ := hS j hi2
    obtain ⟨rfl, rfl⟩ := (by simpa [hA] using hA' : b = b' ∧ o = o')
    simpa using hcell
  · intro s hs
    obtain ⟨k, hk, rfl⟩ := List.mem_map.1 hs
    exact (hS k (List.mem_range.1 hk)).choose_spec.choose_spec.2.2
end
end Go.Proofs.YtpmbfcogkoiogaaDoor
end
section
namespace Go.Proofs.YtpmbfcogkoiogaaDoor
open Go.RowKit
/-- a slice of ints, opened -/
theorem Ints.open_ {w : World} {v : Value} {l : List Int} (h : Ints w v l) : ∃ A c, v = .slice A l.length c ∧ l.length ≤ c ∧ l.length ≤ maxLen ∧
    (∀ (k : Nat) (n : Int), l[k]? = some n → ∃ b o, A = some ⟨b, o, none⟩ ∧ (∀ (j : Nat) (m : Int), l[j]? = some m → w.cell? ⟨b, o + j, none⟩ = some (.int .i64 m))) := by
  obtain ⟨A, c, hv, hc, hm, hl, hr⟩ := h
  refine ⟨A, c, hv, hc, hm, fun k n hk => ?_⟩
  have hk0 : k < l.length := (List.getElem?_eq_some_iff.1 hk).1
  obtain ⟨b, o, ha, hx⟩ := hr (by omega)
  exact ⟨b, o, ha, fun j m hj => hx j _ (by rw [List.getElem?_map, hj]; rfl)⟩
/-- the first k numbers are right -/
def RightTo (l : List Int) (k : Nat) : Prop := ∀ j n, j < k → l[j]? = some n → okNum (if j = 0 then none else l[j - 1]?) n
theorem rightTo_all {l : List Int} {k : Nat} (hk : l.length ≤ k) (h : RightTo l k) : rightS none l := by
  rw [rightS_iff]
  intro j n hj
  exact h j n (by have := (List.getElem?_eq_some_iff.1 hj).1; omega) hj
theorem rightTo_bad {l : List Int} {k : Nat} {n : Int} (hn : l[k]? = some n) (h : ¬ okNum (if k = 0 then none else l[k - 1]?) n) : ¬ rightS none l := by
  rw [rightS_iff]
  exact fun hr => h (hr k n hn)
theorem rightTo_step {l : List Int} {k : Nat} {n : Int} (hn : l[k]? = some n) (h : RightTo l k) (hk : okNum (if k = 0 then none else l[k - 1]?) n) : RightTo l (k + 1) := by
  intro j m hj hm
  by_cases e : j = k
  · subst e
    rw [hn] at hm
    cases hm
    exact hk
  · exact h j m (by omega) hm
end Go.Proofs.YtpmbfcogkoiogaaDoor
end
section
namespace Go.Proofs.YtpmbfcogkoiogaaDoor
open Go.RowKit
/-- the slice value v reads as hypotheses with the labels l -/
def HypL (w : World) (v : Value) (l : List (List UInt8)) : Prop :=
  ∃ A c, v = .slice A l.length c ∧ l.length ≤ c ∧ l.length ≤ maxLen ∧
    (∀ (k : Nat) (s : List UInt8), l[k]? = some s → ∃ b o fl ta tn tc, A = some ⟨b, o, none⟩ ∧ w.cell? ⟨b, o + k * 3, none⟩ = some (.string ⟨s.toArray⟩) ∧ w.cell? ⟨b, o + k * 3 + 1, none⟩ = some (.bool fl) ∧ w.cell? ⟨b, o + k * 3 + 2, none⟩ = some (.slice ta tn tc))
theorem HypL.below {w w' : World} {v : Value} {l : List (List UInt8)} (h : HypL w v l) (hb : Below w.heap.size w w') : HypL w' v l := by
  obtain ⟨A, c, hv, hc, hm, hx⟩ := h
  refine ⟨A, c, hv, hc, hm, fun k s hs => ?_⟩
  obtain ⟨b, o, fl, ta, tn, tc, ha, h1, h2, h3⟩ := hx k s hs
  exact ⟨b, o, fl, ta, tn, tc, ha, (hb.cell (block_lt_of_cell h1)).trans h1, (hb.cell (block_lt_of_cell h2)).trans h2, (hb.cell (block_lt_of_cell h3)).trans h3⟩
/-- the cells of a frame whose hypotheses are the value hv -/
def frameCells (c0 c1 hv c3 c4 c5 c6 c7 : Value) : Array Value := #[c0, c1, hv, c3, c4, c5, c6, c7]
end Go.Proofs.YtpmbfcogkoiogaaDoor
end
section
namespace Go.Proofs.YtpmbfcogkoiogaaDoor
open Go.ChangeShapes Go.WideShapes Go.Deep Go.Joins
section
variable {H : Type} {enc : TypeId × Value → H} {w : World} {base : Nat} {spare : Nat → Bool} {held : Bool}
end
end Go.Proofs.YtpmbfcogkoiogaaDoor
end
section
namespace Go.Proofs.YtpmbfcogkoiogaaDoor
open Go.ChangeShapes Go.WideShapes Go.ChangeAt Go.RowKit
set_option maxRecDepth 100000 in
theorem law_returns_upto {os : Os} (started : os.Started) {H : Type} {enc : TypeId × Value → H} {F : FuncId} {fn : Func} {s : ChangeSpec} {n : Nat} (I : Stop.Interp)
    (noInit : Tryd.checked.prog.inits.idxOf? F = none) (hfn : Tryd.checked.prog.funcs[F]? = some fn) (hs : IsLaw s n) (hrs : fn.resultTypes = #[4]) (hlen : fn.params.toList.length = n)
    (hrd : ∀ t ∈ fn.params.toList, Tryd.prog.readableRec t = true ∧ t < Tryd.prog.types.size)
    (witness : ∃ (w : World) (tape : Tape) (i : Input), w.os = os ∧ (w.forCall tape i).Shaped Tryd.checked.prog ∧ i.vars = [] ∧ Input.okWide Tryd.checked.prog (w.forCall tape i) .any w.heap.size F i ∧
      (Rows.OpenSpec.upto s).pre6 enc Tryd.checked.prog fn [] false (w.forCall tape i).memory i.args ∧ (({} : Assume)).holds Tryd.checked.prog (lone (Frame.enter Tryd.checked.prog F i.args .normal) [] (w.forCall tape i)))
    (walk : LawWalk F fn.params.toList fun _ ds => Rows.uptoBulkAll ds ≤ 1048576) :
    ReturnsInHanded {} Tryd.checked os F .any ((Rows.OpenSpec.upto s).pre6 enc Tryd.prog fn [] false) (((Rows.OpenSpec.upto s).at I).post enc Tryd.prog fn false true false false) := by
  refine returnsInHanded_of_cond_sized (C := Tryd.checked) (s := Rows.OpenSpec.upto s) (k := Rows.uptoSmall) rfl ownK started noInit hfn witness ?_
  intro W base args ds gs before hval hW _ hk hsz _
  have hW' : DataW.Whole enc Tryd.prog fn.params.toList s.vars false W args.toList ds gs before := hW
  have hlt : ∀ x ∈ before, x.block < W.heap.size := fun x hx => hW'.lt x hx
  obtain ⟨p, q, hA, hV, hp, hz, hn⟩ := hW'
  rw [hs.1] at hV
  obtain ⟨rfl, rfl⟩ := trodVars_none hV
  have hvt : (Rows.OpenSpec.upto s).bare.plain.varTypes Tryd.checked.prog = [] := by
    simp [DataSpec.varTypes, ChangeSpec.plain, Rows.OpenSpec.upto, OpenSpec.bare, OpenSpec.ofChange, hs.1]
  rw [hvt, List.append_nil, List.append_nil] at hsz
  rw [List.append_nil] at hk
  refine (walk H enc W base args ds p (fun j t v ht hv => hval j t v (by rw [← Array.getElem?_toList]; exact ht) hv) hA (fun x hx => hlt x (by rw [hp]; simpa using hx)) hsz (of_decide_eq_true hk)).mono ?_
  rintro e W' ⟨rfl, hb⟩
  exact ⟨_, rfl, law_post hs hrs hlen hrd hW hb⟩
theorem bulk_one {H : Type} (d : DataW H) : 1 ≤ Rows.uptoBulk d := by
  cases d with
  | lit l => cases l <;> simp [Rows.uptoBulk]
  | nil => simp [Rows.uptoBulk]
  | ptr d => simp [Rows.uptoBulk]
  | slice elems spare => simp [Rows.uptoBulk]
  | agg parts => simp [Rows.uptoBulk]
  | iface t d => simp [Rows.uptoBulk]
  | map entries => simp [Rows.uptoBulk]
  | held h => simp [Rows.uptoBulk]
end Go.Proofs.YtpmbfcogkoiogaaDoor
end
section
namespace Go.Proofs.YtpmbfcogkoiogaaDoor
open Go.ChangeShapes Go.WideShapes Go.Deep Go.Joins
section
variable {H : Type} {enc : TypeId × Value → H} {P : Program} {w : World} {base : Nat} {spare : Nat → Bool} {held : Bool}
/-- a slice, element by element: its cells, their reading, and the bulk of the whole -/
theorem rows_of_trod_b {t e : TypeId} {fuel : Nat} {cs : List Value} {x : DataW H × List MemPlace} (ht : P.underlying t = some (.slice e)) (hp : 0 < P.cellsOf e) (h : DataW.trod enc P w base spare held fuel t cs = some x) :
    ∃ (A : Option Addr) (len c n : Nat) (D : Nat → DataW H), cs = [.slice A len c] ∧ len ≤ c ∧ c ≤ maxLen ∧ Rows.uptoBulkAll ((List.range len).map D) + 1 ≤ Rows.uptoBulk x.1 ∧
      ∀ k, k < len → ∃ b o cs' pl, A = some ⟨b, o, none⟩ ∧ cs'.length = P.cellsOf e ∧ (∀ j u, cs'[j]? = some u → w.cell? ⟨b, o + k * P.cellsOf e + j, none⟩ = some u) ∧ DataW.trod enc P w base spare held n e cs' = some (D k, pl) := by
  have h0 := h
  rcases open_slice ht h with ⟨rfl, rfl⟩ | ⟨a, len, cap, m, n, D, Pl, rfl, hb, hl, hm, hmm, rfl, hx⟩
  · exact ⟨none, 0, 0, 0, fun _ => .nil, rfl, Nat.le_refl _, Nat.zero_le _, by simp [Rows.uptoBulkAll, Rows.uptoBulk], fun k hk => absurd hk (by omega)⟩
  refine ⟨some a, len, cap, n, D, rfl, hl, hm, by simp only [Rows.uptoBulk]; omega, fun k hk => ?_⟩
  have hkm : k < m := by rw [hmm]; split <;> omega
  obtain ⟨cs', h1, h2⟩ := hx k hkm
  obtain ⟨_, hlen, hc⟩ := World.cells?_some h1
  obtain ⟨b, o, s⟩ := a
  have hsp : s = none := by
    obtain ⟨cs0, g1, _⟩ := hx 0 (by omega)
    obtain ⟨_, hlen0, hc0⟩ := World.cells?_some g1
    have h0 := hc0 0 hp
    rw [List.getElem?_eq_getElem (by omega)] at h0
    have := World.cell?_spot h0
    simpa [Addr.add] using this
  subst hsp
  refine ⟨b, o, cs', _, rfl, hlen, fun j u hu => ?_, h2⟩
  have hj : j < P.cellsOf e := by rw [← hlen]; exact (List.getElem?_eq_some_iff.1 hu).1
  have := hc j hj
  rw [hu, addr_add, addr_add] at this
  exact this
theorem bulk_map {S : Nat → List UInt8} {D : Nat → DataW H} : ∀ (l : List Nat), (∀ k ∈ l, (S k).length + 1 ≤ Rows.uptoBulk (D k)) → (l.map S).flatten.length + l.length ≤ Rows.uptoBulkAll (l.map D) := by
  intro l
  induction l with
  | nil => intro _; simp
  | cons a l ih =>
    intro h
    have h1 := h a (List.mem_cons_self ..)
    have h2 := ih fun k hk => h k (List.mem_cons_of_mem _ hk)
    simp only [List.map_cons, List.flatten_cons, List.length_append, List.length_cons, Rows.uptoBulkAll] at h2 ⊢
    omega
theorem strs_of_trod_b {t e : TypeId} {fuel : Nat} {cs : List Value} {x : DataW H × List MemPlace} (ht : P.underlying t = some (.slice e)) (he : P.underlying e = some .string) (hc : P.cellsOf e = 1) (h : DataW.trod enc P w base spare held fuel t cs = some x) :
    ∃ v l, cs = [v] ∧ Strs w v l ∧ (∀ s ∈ l, s.length ≤ maxLen) ∧ l.flatten.length + l.length + 1 ≤ Rows.uptoBulk x.1 := by
  obtain ⟨A, len, c, n, D, rfl, hl, hm, hbk, hx⟩ := rows_of_trod_b ht (by omega) h
  obtain ⟨S, hS⟩ := choose_lt (α := List UInt8) (p := fun k s => ∃ b o, A = some ⟨b, o, none⟩ ∧ w.cell? ⟨b, o + k, none⟩ = some (.string ⟨s.toArray⟩) ∧ s.length ≤ maxLen ∧ D k = .lit (.string s)) (n := len) (fun k hk => by
    obtain ⟨b, o, cs', pl, hA, hlen, hcell, hy⟩ := hx k hk
    obtain ⟨s, h1, h2, h3⟩ := DataW.trod_string he hy
    refine ⟨s.data.toList, b, o, hA, ?_, by simpa using h3, by injection h2⟩
    have := hcell 0 _ (by rw [h1]; rfl)
    rw [hc] at this
    simpa using this)
  refine ⟨_, (List.range len).map S, rfl, ⟨A, c, by simp, by simpa using hl, by simp; omega, by simp, fun h0 => ?_⟩, ?_, ?_⟩
  · simp at h0
    obtain ⟨b, o, hA, _⟩ := hS 0 h0
    refine ⟨b, o, hA, fun j u hu => ?_⟩
    simp [List.getElem?_map] at hu
    obtain ⟨i, hi, rfl⟩ := hu
    obtain ⟨hi2, rfl⟩ := List.getElem?_eq_some_iff.1 hi
    simp at hi2
    obtain ⟨b', o', hA', hcell, _⟩ := hS j hi2
    obtain ⟨rfl, rfl⟩ := (by simpa [hA] using hA' : b = b' ∧ o = o')
    simpa using hcell
  · intro s hs
    obtain ⟨k, hk, rfl⟩ := List.mem_map.1 hs
    exact (hS k (List.mem_range.1 hk)).choose_spec.choose_spec.2.2.1
  · have := bulk_map (S := S) (D := D) (List.range len) fun k hk => by
      rw [(hS k (List.mem_range.1 hk)).choose_spec.choose_spec.2.2.2]
      simp [Rows.uptoBulk]
    rw [List.length_map]
    omega
theorem bulk_agg2 (a b : DataW H) : Rows.uptoBulk (.agg [a, b]) = Rows.uptoBulk a + Rows.uptoBulk b + 1 := by simp [Rows.uptoBulk, Rows.uptoBulkAll]
end
theorem array2' {α : Type} {cs : Array α} (h : cs.size = 2) : ∃ c0 c1, cs = #[c0, c1] := by
  obtain ⟨l⟩ := cs
  match l, h with
  | [c0, c1], _ => exact ⟨c0, c1, rfl⟩
end Go.Proofs.YtpmbfcogkoiogaaDoor
end
