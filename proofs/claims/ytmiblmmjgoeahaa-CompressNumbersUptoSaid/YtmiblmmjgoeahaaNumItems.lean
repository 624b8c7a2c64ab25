/- The items that the iterator over letters yields, as a plain list; what they say of the numbers. -/
import Derived.Test.YtmiblmmjgoeahaaNumPlain
namespace Go.Proofs.Ytmiblmmjgoeahaa
/-- the value of an item that is not possible -/
def wrongVal (r : Nat) (b : UInt8) : Int := if 65 ≤ b.toNat ∧ b.toNat ≤ 84 then ((20 * r + (b.toNat - 65) + 1 : Nat) : Int) else if b.toNat = 63 then -1 else 0
/-- value, place, wrong -/
abbrev It := Int × Nat × Bool
def nitems (r : Nat) (f : Bool) (k : Nat) : List UInt8 → List It
  | [] => if r = 0 then [] else [(0, k, true)]
  | b :: t => match nstep r f b with
    | none => [(wrongVal r b, k, true)]
    | some (r', f', none) => nitems r' f' (k + 1) t
    | some (r', f', some v) => (v, k, false) :: nitems r' f' (k + 1) t
theorem nitems_none {r k : Nat} {f : Bool} {b : UInt8} {t : List UInt8} (h : nstep r f b = none) : nitems r f k (b :: t) = [(wrongVal r b, k, true)] := by simp [nitems, h]
theorem nitems_part {r k : Nat} {f : Bool} {b : UInt8} {t : List UInt8} {r' : Nat} {f' : Bool} (h : nstep r f b = some (r', f', none)) : nitems r f k (b :: t) = nitems r' f' (k + 1) t := by simp [nitems, h]
theorem nitems_num {r k : Nat} {f : Bool} {b : UInt8} {t : List UInt8} {r' : Nat} {f' : Bool} {v : Int} (h : nstep r f b = some (r', f', some v)) : nitems r f k (b :: t) = (v, k, false) :: nitems r' f' (k + 1) t := by simp [nitems, h]
theorem nitems_ok : ∀ (t : List UInt8) (r : Nat) (f : Bool) (k : Nat), (∀ x ∈ nitems r f k t, x.2.2 = false) → nrun r f k t = ((nitems r f k t).map (·.1), none) := by
  intro t
  induction t with
  | nil =>
    intro r f k h
    by_cases hr : r = 0
    · simp [nitems, nrun, hr]
    · simp [nitems, hr] at h
  | cons b t ih =>
    intro r f k h
    cases hs : nstep r f b with
    | none => rw [nitems_none hs] at h; simp at h
    | some p =>
      obtain ⟨r', f', o⟩ := p
      cases o with
      | none =>
        rw [nitems_part hs] at h ⊢
        rw [nrun_go hs, ih _ _ _ h]
        simp
      | some v =>
        rw [nitems_num hs] at h ⊢
        rw [nrun_go hs, ih _ _ _ (fun x hx => h x (List.mem_cons_of_mem _ hx))]
        simp
theorem nitems_bad : ∀ (t : List UInt8) (r : Nat) (f : Bool) (k : Nat) (pre : List It) (x : It), pre ++ [x] <+: nitems r f k t → x.2.2 = true → (nrun r f k t).2 = some x.2.1 := by
  intro t
  induction t with
  | nil =>
    intro r f k pre x h hx
    by_cases hr : r = 0
    · simp [nitems, hr] at h
    · simp only [nitems, hr, if_false] at h
      cases pre with
      | nil => simp at h; simp [nrun, hr, h]
      | cons y pre =>
        have := h.length_le
        simp at this
  | cons b t ih =>
    intro r f k pre x h hx
    cases hs : nstep r f b with
    | none =>
      rw [nitems_none hs] at h
      rw [nrun_bad hs]
      cases pre with
      | nil => simp at h; simp [h]
      | cons y pre =>
        have := h.length_le
        simp at this
    | some p =>
      obtain ⟨r', f', o⟩ := p
      cases o with
      | none =>
        rw [nitems_part hs] at h
        rw [nrun_go hs]
        exact ih _ _ _ _ _ h hx
      | some v =>
        rw [nitems_num hs] at h
        rw [nrun_go hs]
        cases pre with
        | nil =>
          have : x = (v, k, false) := by
            have := h
            simp at this
            exact this
          rw [this] at hx
          simp at hx
        | cons y pre =>
          rw [List.cons_append, List.cons_prefix_cons] at h
          exact ih _ _ _ _ _ h.2 hx
theorem nitems_len : ∀ (t : List UInt8) (r : Nat) (f : Bool) (k : Nat), (nitems r f k t).length ≤ t.length + 1 := by
  intro t
  induction t with
  | nil => intro r f k; by_cases hr : r = 0 <;> simp [nitems, hr]
  | cons b t ih =>
    intro r f k
    cases hs : nstep r f b with
    | none => rw [nitems_none hs]; simp
    | some p =>
      obtain ⟨r', f', o⟩ := p
      cases o with
      | none => rw [nitems_part hs]; have := ih r' f' (k + 1); simp; omega
      | some v => rw [nitems_num hs]; have := ih r' f' (k + 1); simp; omega
theorem items_len (s : List UInt8) (pre : List It) (x : It) (h : pre ++ [x] <+: nitems 0 false 0 s) (hs : s.length ≤ 40000) : pre.length < 40001 := by
  have h1 := h.length_le
  have h2 := nitems_len s 0 false 0
  simp at h1
  omega
theorem items_num {s : List UInt8} {pre : List It} {r k : Nat} {f : Bool} {r' : Nat} {f' : Bool} {v v' : Int} (hi : nitems 0 false 0 s = pre ++ nitems r f k (s.drop k)) (hk : k < s.length) (hs : nstep r f s[k] = some (r', f', some v)) (hv : v = v') :
    nitems 0 false 0 s = pre ++ (v', k, false) :: nitems r' f' (k + 1) (s.drop (k + 1)) := by
  subst hv
  rw [List.drop_eq_getElem_cons hk, nitems_num hs] at hi
  exact hi
theorem items_bad {s : List UInt8} {pre : List It} {r k : Nat} {f : Bool} {v : Int} (hi : nitems 0 false 0 s = pre ++ nitems r f k (s.drop k)) (hk : k < s.length) (hs : nstep r f s[k] = none) (hv : wrongVal r s[k] = v) :
    nitems 0 false 0 s = pre ++ [(v, k, true)] := by
  subst hv
  rw [List.drop_eq_getElem_cons hk, nitems_none hs] at hi
  exact hi
theorem items_part {s : List UInt8} {pre : List It} {r k : Nat} {f : Bool} {r' : Nat} {f' : Bool} (hi : nitems 0 false 0 s = pre ++ nitems r f k (s.drop k)) (hk : k < s.length) (hs : nstep r f s[k] = some (r', f', none)) :
    nitems 0 false 0 s = pre ++ nitems r' f' (k + 1) (s.drop (k + 1)) := by
  rw [List.drop_eq_getElem_cons hk, nitems_part hs] at hi
  exact hi
theorem items_end {s : List UInt8} {pre : List It} {r : Nat} {f : Bool} (hi : nitems 0 false 0 s = pre ++ nitems r f s.length (s.drop s.length)) :
    nitems 0 false 0 s = pre ++ if r = 0 then [] else [(0, s.length, true)] := by
  rw [List.drop_length] at hi
  exact hi
end Go.Proofs.Ytmiblmmjgoeahaa
