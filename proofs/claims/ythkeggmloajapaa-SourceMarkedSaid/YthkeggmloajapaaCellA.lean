/- A region that draws, in a round of a range over a function: by an invariant over what has been carried out. append(append([]T{}, xs...), y), its operations in any order. -/
import Derived.Test.YthkeggmloajapaaRangeA
import Derived.OrdersIn
import Derived.Test.YthkeggmloajapaaBldA
import Derived.Maps.AppendAt
import Derived.Laws.AppendOwn
import Derived.TacticsInMore
section
namespace Go.Proofs.Ythkeggmloajapaa
section
variable {F : Fence} {n : Nat} {P : Program} {md : Region.Mode} {ops : Array Oper} {Q : Exit → Act → World → Prop} {listed : Array Bool}
theorem mem_ready {i : Nat} (h : i ∈ Region.ready md ops listed) : i < ops.size ∧ listed.getD i true = false ∧ ∀ o, ops[i]? = some o → (o.after.all fun e => !Region.binds md e || listed.getD e.on false) = true := by
  unfold Region.ready at h
  obtain ⟨h1, h2⟩ := List.mem_filter.1 h
  rw [Bool.and_eq_true] at h2
  refine ⟨List.mem_range.1 h1, by simpa using h2.1, fun o ho => ?_⟩
  have := h2.2
  rw [ho] at this
  simpa using this
/-- each operation waits for earlier ones alone -/
def acyc (md : Region.Mode) (ops : Array Oper) : Bool := (List.range ops.size).all fun i => ((ops[i]?).map fun o => o.after.all fun e => !Region.binds md e || decide (e.on < i)).getD true
theorem all_listed (hac : acyc md ops = true) (hr : Region.ready md ops listed = []) (hs : listed.size = ops.size) : ∀ i, i < ops.size → listed.getD i true = true := by
  intro i
  induction i using Nat.strongRecOn with
  | _ i ih =>
    intro hi
    cases hl : listed.getD i true with
    | true => rfl
    | false =>
      exfalso
      have hm : i ∈ Region.ready md ops listed := by
        unfold Region.ready
        refine List.mem_filter.2 ⟨List.mem_range.2 hi, ?_⟩
        rw [hl, Array.getElem?_eq_getElem hi]
        simp only [Bool.not_false, Bool.true_and, Option.map_some, Option.getD_some]
        have ha := List.all_eq_true.1 hac i (List.mem_range.2 hi)
        rw [Array.getElem?_eq_getElem hi] at ha
        simp only [Option.map_some, Option.getD_some] at ha
        rw [Array.all_eq_true_iff_forall_mem] at ha ⊢
        intro e he
        have h1 := ha e he
        rw [Bool.or_eq_true] at h1 ⊢
        rcases h1 with h1 | h1
        · exact .inl h1
        · have h2 := of_decide_eq_true h1
          have h3 := ih e.on h2 (by omega)
          refine .inr ?_
          rw [Array.getD_eq_getD_getElem?, Array.getElem?_eq_getElem (by omega)] at h3 ⊢
          simpa using h3
      rw [hr] at hm
      cases hm
theorem wpAnyIn_inv {Inv : Array Bool → Act → World → Prop} (hac : acyc md ops = true) (hsz : ∀ listed a w, Inv listed a w → listed.size = ops.size)
    (step : ∀ (i : Nat) (listed : Array Bool) (a : Act) (w : World), i < ops.size → Inv listed a w → listed.getD i true = false → (∀ o, ops[i]? = some o → (o.after.all fun e => !Region.binds md e || listed.getD e.on false) = true) →
      wpOpIn F n P ops Q i (fun a' w' => Inv (listed.setIfInBounds i true) a' w') a w)
    (done : ∀ listed a w, Inv listed a w → (∀ i, i < ops.size → listed.getD i true = true) → Q .normal a w) :
    ∀ (fuel : Nat) (listed : Array Bool) (a : Act) (w : World), Inv listed a w → listed.toList.count false ≤ fuel → wpAnyIn F n P md ops Q fuel listed a w := by
  intro fuel
  induction fuel with
  | zero =>
    intro listed a w h hc
    have hr : Region.ready md ops listed = [] := by
      refine List.eq_nil_iff_forall_not_mem.2 fun i hi => ?_
      obtain ⟨h1, h2, _⟩ := mem_ready hi
      have hlt : i < listed.size := by rw [hsz _ _ _ h]; exact h1
      rw [Array.getD_eq_getD_getElem?, Array.getElem?_eq_getElem hlt] at h2
      have h3 : false ∈ listed.toList := by
        have h4 : listed[i] = false := by simpa using h2
        rw [← h4]
        exact Array.getElem_mem_toList hlt
      have := List.count_pos_iff.2 h3
      omega
    exact ⟨hr, done _ _ _ h (all_listed hac hr (hsz _ _ _ h))⟩
  | succ fuel ih =>
    intro listed a w h hc
    refine ⟨fun hr => done _ _ _ h (all_listed hac hr (hsz _ _ _ h)), fun i hi => ?_⟩
    obtain ⟨h1, h2, h3⟩ := mem_ready hi
    refine wpOpIn_mono (fun a' w' h' => ih _ _ _ h' ?_) (step i listed a w h1 h h2 h3)
    have hlt : i < listed.size := by rw [hsz _ _ _ h]; exact h1
    rw [Array.getD_eq_getD_getElem?, Array.getElem?_eq_getElem hlt] at h2
    have h4 : listed[i] = false := by simpa using h2
    rw [Array.toList_setIfInBounds, List.count_set (by simpa using hlt)]
    have h5 : listed.toList[i]'(by simpa using hlt) = false := by simpa using h4
    rw [h5]
    have h6 : 0 < listed.toList.count false := List.count_pos_iff.2 (by rw [← h4]; exact Array.getElem_mem_toList hlt)
    rw [if_pos (by decide), if_neg (by decide)]
    omega
end
end Go.Proofs.Ythkeggmloajapaa
end
section
namespace Go.Proofs.Ythkeggmloajapaa
open Go.RowKit
theorem wpOpIn_app {F : Fence} {n : Nat} {P : Program} {ops : Array Oper} {Q : Exit → Act → World → Prop} {i : Nat} {o : Oper} {a : Act} {w w' : World} {K : Act → World → Prop} {v u v' : Value} (ho : ops[i]? = some o) (hg : o.guard = none) (s x : Operand) (t : TypeId)
    (hop : o.op = Op.call { callee := Callee.builtin Builtin.append, args := #[s, x], argTypes := #[t, t] }) (hs : a.eval s = v) (hx : a.eval x = u) (hrun : (Builtin.append_ #[t, t] o.type #[v, u]).run P w = .ok v' w') (hK : K (a.put o.dst v') w') : wpOpIn F n P ops Q i K a w := by
  have hw : Region.wanted o (yielded ops a.tmps) = true := by simp [Region.wanted, hg]
  unfold wpOpIn
  rw [ho]
  simp only [hw, if_true]
  unfold Oper.wpIn
  constructor
  · simp [Oper.about, hop, resolve, Target.leads, Sem.run_pure]
  · rw [Oper.semAt_plain F _ _ (by rw [hop]; intro c hc'; cases hc')]
    simp [execOp, hop, resolve, invoke, builtin, hs, hx, hrun, Result.andThen]
    exact hK
/-- the region k of a code -/
def regC (k : Nat) : Code → Code
  | .region id ops d => if id = k then .region id ops d else .skip
  | .seq a b => match regC k a with
    | .skip => regC k b
    | c => c
  | .cond _ a b => match regC k a with
    | .skip => regC k b
    | c => c
  | .block _ b => regC k b
  | .loop b => regC k b
  | .scope b => regC k b
  | .rangeFunc _ _ a b => match regC k a with
    | .skip => regC k b
    | c => c
  | _ => .skip
section
variable {P : Program} {W w : World} {E : TypeId} {sz n : Nat} {xs ys : List Value} {b0 b4 b6 b7 : Bool} {v0 v4 v6 v7 : Value}
/-- what has been carried out: b0 the empty slice, b4 the copy, b6 the element laid, b7 the append -/
structure CA (W : World) (E : TypeId) (sz n : Nat) (xs ys : List Value) (b0 b4 b6 b7 : Bool) (v0 v4 v6 v7 : Value) (w : World) : Prop where
  below : Below W.heap.size W w
  f0 : b0 = true → b4 = false → w.ownsRow W.heap.size E sz v0 0 []
  f4 : b4 = true → b7 = false → w.ownsRow W.heap.size E sz v4 n xs
  f6 : b6 = true → b7 = false → ∃ G, v6 = .slice (some ⟨G, 0, none⟩) 1 1 ∧ Row w G E ys.toArray ∧ W.heap.size ≤ G ∧ (b0 = true → b4 = false → v0.ownBlock ≠ some G) ∧ (b4 = true → v4.ownBlock ≠ some G)
  f7 : b7 = true → w.ownsRow W.heap.size E sz v7 (n + 1) (xs ++ ys)
theorem CA.start : CA W E sz n xs ys false false false false v0 v4 v6 v7 W.drew :=
  ⟨(Below.refl _ _).drew, fun h => (by cases h), fun h => (by cases h), fun h => (by cases h), fun h => (by cases h)⟩
theorem ca_own_alloc {w : World} {b k s : Nat} {e : TypeId} {v : Value} {zs : List Value} (h : w.ownsRow b e s v k zs) (o : Obj) : (w.alloc o).ownsRow b e s v k zs := own_below h (new_ (Below.refl _ _) o)
theorem CA.s0 (h : CA W E sz n xs ys false false b6 false v0 v4 v6 v7 w) : CA W E sz n xs ys true false b6 false (.slice (some ⟨w.heap.size, 0, none⟩) 0 0) v4 v6 v7 (w.alloc (.cells #[] E)) := by
  refine ⟨h.below.alloc h.below.size _, fun _ _ => ?_, fun h => (by cases h), fun h1 h2 => ?_, fun h => (by cases h)⟩
  · have h1 := World.ownsRow_made (base := W.heap.size) (e := E) (size := sz) w #[] 0 h.below.size (by decide) (by simp)
    simpa using h1
  · obtain ⟨G, e, hr, hg, _, _⟩ := h.f6 h1 h2
    exact ⟨G, e, hr.alloc _, hg, fun _ _ e => by have := hr.lt; simp [Value.ownBlock] at e; omega, fun h => (by cases h)⟩
theorem CA.s6 (h : CA W E sz n xs ys b0 b4 false false v0 v4 v6 v7 w) : CA W E sz n xs ys b0 b4 true false v0 v4 (.slice (some ⟨w.heap.size, 0, none⟩) 1 1) v7 (w.alloc (.cells ys.toArray E)) := by
  refine ⟨h.below.alloc h.below.size _, fun h1 h2 => ca_own_alloc (h.f0 h1 h2) _, fun h1 h2 => ca_own_alloc (h.f4 h1 h2) _, fun _ _ => ⟨_, rfl, Row.new _ _ _, h.below.size, fun h1 h2 e => ?_, fun h1 e => ?_⟩, fun h => (by cases h)⟩
  · have := ((h.f0 h1 h2).lt _ e).2; omega
  · have := ((h.f4 h1 rfl).lt _ e).2; omega
theorem CA.r4 (h : CA W E sz n xs ys true false b6 false v0 v4 v6 v7 w) (T ty : TypeId) (i : TypeInfo) (z : Value) (bytes : Nat) (ht : P.underlying T = some (.slice E)) (hi : P.info? E = some i) (hz : i.zero = some z)
    (hsize : i.size = sz) (hby : i.bytes = bytes) (hzs : z.cells.size = sz) (hsz : 0 < sz) {sv : Value} (hr : Rds W sz sv n xs) (h1 : ∀ u ∈ xs, u.oneCell' = true) (hbytes : n * bytes ≤ 140737488355328) :
    ∃ v w', (Builtin.append_ #[T, T] ty #[v0, sv]).run P w = .ok v w' ∧ CA W E sz n xs ys true true b6 false v0 v v6 v7 w' := by
  have hr' := hr.below h.below
  obtain ⟨A, c, rfl, hc, hml, hl, hcell⟩ := hr'
  have hown := h.f0 rfl rfl
  have fin : ∀ v w', w'.ownsRow W.heap.size E sz v n xs → w.grownBy w' v0.ownBlock → (v.ownBlock = v0.ownBlock ∨ v.ownBlock = some w.heap.size) → CA W E sz n xs ys true true b6 false v0 v v6 v7 w' := fun v w' ho hg hat => by
    refine ⟨⟨hg.os.trans h.below.os, hg.tape.trans h.below.tape, hg.output.trans h.below.output, Nat.le_trans h.below.size hg.size, fun k hk => (hg.block k (by have := h.below.size; omega) fun e => ?_).trans (h.below.block k hk)⟩, fun _ h => (by cases h), fun _ _ => ho, fun h2 h3 => ?_, fun h => (by cases h)⟩
    · have := (hown.lt _ e.symm).1; omega
    · obtain ⟨G, e, hrw, hG, hne, _⟩ := h.f6 h2 h3
      refine ⟨G, e, hrw.grown hg (fun e => hne rfl rfl e.symm), hG, fun _ h => (by cases h), fun _ e => ?_⟩
      rcases hat with hat | hat
      · exact hne rfl rfl (hat ▸ e)
      · have := hrw.lt
        rw [hat] at e
        simp at e
        omega
  cases A with
  | none =>
    have h0 : n = 0 := by
      rcases Nat.eq_zero_or_pos n with h0 | h0
      · exact h0
      · obtain ⟨b, o', ha, _⟩ := hcell h0; cases ha
    subst h0
    obtain rfl : xs = [] := List.eq_nil_of_length_eq_zero (by simpa using hl)
    exact ⟨v0, w, run_append_nil_any (P := P) (w := w) W.heap.size T ty E i sz ht hi v0 0 [] hown c, fin _ _ hown (World.grownBy.refl w _) (.inl rfl)⟩
  | some ad =>
    obtain ⟨v, w', hrun, ho, hg, _, hat⟩ := run_append_own_at (P := P) w W.heap.size T ty E i z sz bytes ht hi hz hsize hby hzs hsz v0 0 [] hown ad n c xs hl (by
      intro j u hu
      rcases Nat.eq_zero_or_pos n with h0 | h0
      · subst h0
        obtain rfl : xs = [] := List.eq_nil_of_length_eq_zero (by simpa using hl)
        simp at hu
      · obtain ⟨b, o', ha, hz'⟩ := hcell h0
        obtain rfl : ad = ⟨b, o', none⟩ := by simpa using ha
        rw [addr_add]
        exact hz' j u hu) h1 (by omega) (by rw [Nat.zero_add]; exact hbytes) h.below.size
    rw [Nat.zero_add, List.nil_append] at ho
    exact ⟨v, w', hrun, fin v w' ho hg hat⟩
theorem CA.r7 (h : CA W E sz n xs ys true true true false v0 v4 v6 v7 w) (T ty : TypeId) (i : TypeInfo) (z : Value) (bytes : Nat) (ht : P.underlying T = some (.slice E)) (hi : P.info? E = some i) (hz : i.zero = some z)
    (hsize : i.size = sz) (hby : i.bytes = bytes) (hzs : z.cells.size = sz) (hsz : 0 < sz) (hy : ys.length = sz) (h1 : ∀ u ∈ ys, u.oneCell' = true) (hn : n + 1 ≤ maxLen) (hbytes : (n + 1) * bytes ≤ 140737488355328) :
    ∃ v w', (Builtin.append_ #[T, T] ty #[v4, v6]).run P w = .ok v w' ∧ CA W E sz n xs ys true true true true v0 v4 v6 v w' := by
  have hown := h.f4 rfl rfl
  obtain ⟨G, rfl, hrw, hG, _, hne⟩ := h.f6 rfl rfl
  obtain ⟨v, w', hrun, ho, hg, _, hat⟩ := run_append_own_at (P := P) w W.heap.size T ty E i z sz bytes ht hi hz hsize hby hzs hsz v4 n xs hown ⟨G, 0, none⟩ 1 1 ys (by omega) (by
    intro j u hu
    rw [addr_add, Nat.zero_add]
    exact hrw.cell (by simpa using hu)) h1 hn hbytes h.below.size
  refine ⟨v, w', hrun, ⟨hg.os.trans h.below.os, hg.tape.trans h.below.tape, hg.output.trans h.below.output, Nat.le_trans h.below.size hg.size, fun k hk => (hg.block k (by have := h.below.size; omega) fun e => ?_).trans (h.below.block k hk)⟩, fun _ h => (by cases h), fun _ h => (by cases h), fun _ h => (by cases h), fun _ => ho⟩
  have := (hown.lt _ e.symm).1; omega
end
end Go.Proofs.Ythkeggmloajapaa
end
