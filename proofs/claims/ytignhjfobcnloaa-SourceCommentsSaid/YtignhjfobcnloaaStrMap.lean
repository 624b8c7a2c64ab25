/- A map from strings to strings, one that came in or the call's own: what each key holds. -/
import Derived.Test.YtignhjfobcnloaaMapSet
import Derived.Test.YtignhjfobcnloaaTakerA
import Derived.Maps.StringElems
namespace Go.Proofs.Ytignhjfobcnloaa
open Go.RowKit Go.Maps
def strOf {H : Type} : DataW H → List UInt8
  | .lit (.string s) => s
  | _ => []
/-- what the keys of a datum hold -/
structure HoldsS {H : Type} (D : DataW H) (f : List UInt8 → Option (List UInt8)) : Prop where
  at_ : ∀ s, s.length ≤ maxLen → Maps.has D (.string s) = (f s).isSome ∧ D.atKey (.string s) (.lit (.string [])) = .lit (.string ((f s).getD []))
  sz : ∀ s t, f s = some t → s.length ≤ maxLen ∧ t.length ≤ maxLen
/-- block b is a map of at most n keys; f: what each key holds -/
def StrM (H : Type) (w : World) (b n : Nat) (f : List UInt8 → Option (List UInt8)) : Prop := ∃ D, w.ownsMap (H := H) Try.prog 9 (plainElem Try.prog 9) b n D ∧ HoldsS D f
theorem plainStr_inv {H : Type} {P : Program} {e : TypeId} (he : P.underlying e = some .string) {v : Value} {y : DataW H} {ps : List MemPlace} (h : plainElem (H := H) P e v = some (y, ps)) : ∃ t : List UInt8, v = .string ⟨t.toArray⟩ ∧ y = .lit (.string t) ∧ t.length ≤ maxLen := by
  obtain ⟨s, rfl, hz, hl⟩ := plainElem_string_inv he h
  injection hz with h1 h2
  exact ⟨s.data.toList, rfl, h1, by rw [Array.length_toList]; exact hl⟩
section
variable {H : Type} {w w' : World} {b n : Nat} {f : List UInt8 → Option (List UInt8)}
theorem StrM.new (w : World) : StrM H (w.alloc (.map #[] 0)) w.heap.size 0 (fun _ => none) := by
  refine ⟨_, World.ownsMap_made _ _ _ _, ⟨fun s _ => ⟨rfl, ?_⟩, fun s t h => by cases h⟩⟩
  exact atKey_of_not_has rfl _
theorem StrM.lt (h : StrM H w b n f) : b < w.heap.size := by obtain ⟨D, h, _⟩ := h; exact h.lt
theorem StrM.same (h : StrM H w b n f) (e : w'.heap[b]? = w.heap[b]?) : StrM H w' b n f := by
  obtain ⟨D, ⟨es, clock, hb, hr⟩, hf⟩ := h
  exact ⟨D, ⟨es, clock, e.trans hb, hr⟩, hf⟩
theorem StrM.below (h : StrM H w b n f) (hb : Below w.heap.size w w') : StrM H w' b n f := h.same (hb.block b h.lt)
theorem StrM.look (h : StrM H w b n f) (s : List UInt8) (hs : s.length ≤ maxLen) :
    (Instr.lookup 70 (.map (some b)) (.string ⟨s.toArray⟩) true).run Try.prog w = .ok (.tuple #[.string ⟨((f s).getD []).toArray⟩, .bool (f s).isSome]) w ∧
    (Instr.lookup 70 (.map (some b)) (.string ⟨s.toArray⟩) false).run Try.prog w = .ok (.string ⟨((f s).getD []).toArray⟩) w := by
  obtain ⟨D, h, hf⟩ := h
  obtain ⟨h1, h2⟩ := hf.at_ s hs
  constructor
  · obtain ⟨v, ps, hrun, hv⟩ := h.look_ok (t := 70) (string_keyed Try.underlying9) Try.underlying70 (z := .string ⟨#[]⟩) (zd := .lit (.string [])) (zp := []) (by kernel_rfl) (plainElem_string Try.underlying9 (s := ⟨#[]⟩) (Nat.zero_le _)) (keyOf_str s hs)
    obtain ⟨t, rfl, ht, _⟩ := plainStr_inv Try.underlying9 hv
    rw [h2] at ht
    replace ht : (f s).getD [] = t := congrArg strOf ht
    rw [hrun, h1, ht]
  · obtain ⟨v, ps, hrun, hv⟩ := h.lookup (t := 70) (string_keyed Try.underlying9) Try.underlying70 (z := .string ⟨#[]⟩) (zd := .lit (.string [])) (zp := []) (by kernel_rfl) (plainElem_string Try.underlying9 (s := ⟨#[]⟩) (Nat.zero_le _)) (keyOf_str s hs)
    obtain ⟨t, rfl, ht, _⟩ := plainStr_inv Try.underlying9 hv
    rw [h2] at ht
    replace ht : (f s).getD [] = t := congrArg strOf ht
    rw [hrun, ht]
theorem StrM.put (h : StrM H w b n f) (s t : List UInt8) (hs : s.length ≤ maxLen) (ht : t.length ≤ maxLen) (hl : n < maxLen) :
    ∃ w', (Instr.mapUpdate 70 (.map (some b)) (.string ⟨s.toArray⟩) (.string ⟨t.toArray⟩)).run Try.prog w = .ok () w' ∧ StrM H w' b (n + 1) (fun k => if k = s then some t else f k) ∧ w.grownBy w' (some b) := by
  obtain ⟨D, h, hf⟩ := h
  have hm := h.isMap
  obtain ⟨w', hrun, hown, hg⟩ := h.update (t := 70) (e := 9) (string_keyed Try.underlying9) Try.underlying70 hl (keyOf_str s hs) (plainElem_string Try.underlying9 (s := ⟨t.toArray⟩) (by simpa [ByteArray.size] using ht))
  refine ⟨w', hrun, ⟨_, hown, ⟨fun k hk => ?_, fun k u => ?_⟩⟩, hg⟩
  · by_cases e : k = s
    · subst e
      show _ = Option.isSome (if k = k then some t else f k) ∧ _ = DataW.lit (.string ((if k = k then some t else f k).getD []))
      rw [if_pos rfl]
      have hkk : WideAt.IsKeyLit (Lit.string k) := trivial
      exact ⟨has_put_same hm hkk _, atKey_put_same hm hkk _ _⟩
    · show _ = Option.isSome (if k = s then some t else f k) ∧ _ = DataW.lit (.string ((if k = s then some t else f k).getD []))
      rw [if_neg e]
      have hne : Lit.string k ≠ Lit.string s := fun h => e (by injection h)
      obtain ⟨h1, h2⟩ := hf.at_ k hk
      exact ⟨by rw [has_put_other hne]; exact h1, by rw [atKey_put_other hne]; exact h2⟩
  · show (if k = s then some t else f k) = some u → _
    by_cases e : k = s
    · rw [if_pos e]
      rintro ⟨⟩
      exact ⟨e ▸ hs, ht⟩
    · rw [if_neg e]
      exact hf.sz k u
/-- what the keys of a map that came in hold -/
noncomputable def fOf (D : DataW H) : List UInt8 → Option (List UInt8) := fun s => if s.length ≤ maxLen ∧ Maps.has D (.string s) = true then some (strOf (D.atKey (.string s) (.lit (.string [])))) else none
theorem StrM.of_owns {D : DataW H} (h : w.ownsMap (H := H) Try.prog 9 (plainElem Try.prog 9) b n D) : StrM H w b n (fOf D) := by
  have key : ∀ s, s.length ≤ maxLen → ∃ t : List UInt8, D.atKey (.string s) (.lit (.string [])) = .lit (.string t) ∧ t.length ≤ maxLen := fun s hs => by
    obtain ⟨v, ps, _, hv⟩ := h.look_ok (t := 70) (string_keyed Try.underlying9) Try.underlying70 (z := .string ⟨#[]⟩) (zd := .lit (.string [])) (zp := []) (by kernel_rfl) (plainElem_string Try.underlying9 (s := ⟨#[]⟩) (Nat.zero_le _)) (keyOf_str s hs)
    obtain ⟨t, _, ht, hl⟩ := plainStr_inv Try.underlying9 hv
    exact ⟨t, ht, hl⟩
  refine ⟨D, h, ⟨fun s hs => ?_, fun s t => ?_⟩⟩
  · obtain ⟨t, ht, _⟩ := key s hs
    unfold fOf
    cases hh : Maps.has D (.string s) with
    | true => rw [if_pos ⟨hs, rfl⟩, ht]; exact ⟨rfl, rfl⟩
    | false => rw [if_neg (fun h => by cases h.2), atKey_of_not_has hh]; exact ⟨rfl, rfl⟩
  · unfold fOf
    split
    · rename_i hc
      obtain ⟨u, hu, hl⟩ := key s hc.1
      rw [hu]
      rintro ⟨⟩
      exact ⟨hc.1, hl⟩
    · intro h; cases h
theorem StrM.files (h : StrM H w b n f) (hM : MaxAt w) : FilesAt w.heap.size w (.map (some b)) f where
  low := fun k e => by cases e; exact h.lt
  own := rfl
  look := fun w' hw' s hs => (h.same (hw' b h.lt)).look s hs
  size := fun s t e => by obtain ⟨D, _, hf⟩ := h; exact (hf.sz s t e).2
  mx := fun w' hw' => by
    obtain ⟨m, hm⟩ := hM
    exact ⟨m, by unfold World.cell? at hm ⊢; rw [hw' _ (block_lt_of_cell hm)]; exact hm⟩
theorem files_nil (hM : MaxAt w) : FilesAt w.heap.size w (.map none) (fun _ => none) where
  low := fun k e => by cases e
  own := rfl
  look := fun w' hw' s hs => by
    have h1 := Maps.look_nil (w := w') (t := 70) true (string_keyed (P := Try.prog) Try.underlying9) Try.underlying70 (z := .string ⟨#[]⟩) (by kernel_rfl) (keyOf_str s hs)
    have h2 := Maps.look_nil (w := w') (t := 70) false (string_keyed (P := Try.prog) Try.underlying9) Try.underlying70 (z := .string ⟨#[]⟩) (by kernel_rfl) (keyOf_str s hs)
    exact ⟨h1, h2⟩
  size := fun s t e => by cases e
  mx := fun w' hw' => by
    obtain ⟨m, hm⟩ := hM
    exact ⟨m, by unfold World.cell? at hm ⊢; rw [hw' _ (block_lt_of_cell hm)]; exact hm⟩
end
end Go.Proofs.Ytignhjfobcnloaa
