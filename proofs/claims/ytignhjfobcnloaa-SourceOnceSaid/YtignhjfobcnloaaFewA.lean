/- A map from strings to strings, one that came in or the call's own: what each key holds. few: the files are few and small. An argument that is a map from strings to strings, opened. -/
import Derived.Test.YtignhjfobcnloaaMapSet
import Derived.Test.YtignhjfobcnloaaTakerA
import Derived.Maps.StringElems
import Derived.Maps.RangeWalk
import Derived.WideKeyElems2
import Derived.SizedLaws
section
namespace Go.Proofs.Ytignhjfobcnloaa
open Go.RowKit Go.Maps
def strOf {H : Type} : DataW H → List UInt8
  | .lit (.string s) => s
  | _ => []
/-- what the keys of a datum hold -/
structure HoldsS {H : Type} (D : DataW H) (f : List UInt8 → Option (List UInt8)) : Prop where
  at_ : ∀ s, s.length ≤ maxLen → Maps.has D (.string s) = (f s).isSome ∧ D.atKey (.string s) (.lit (.string [])) = .lit (.string ((f s).getD []))
  sz : ∀ s t, f s = some t → s.length ≤ maxLen ∧ t.length ≤ maxLen
/-- block b is a map of at most n keys; f: what each key holds -/
def StrM (H : Type) (w : World) (b n : Nat) (f : List UInt8 → Option (List UInt8)) : Prop := ∃ D, w.ownsMap (H := H) Try.prog 9 (plainElem Try.prog 9) b n D ∧ HoldsS D f
theorem plainStr_inv {H : Type} {P : Program} {e : TypeId} (he : P.underlying e = some .string) {v : Value} {y : DataW H} {ps : List MemPlace} (h : plainElem (H := H) P e v = some (y, ps)) : ∃ t : List UInt8, v = .string ⟨t.toArray⟩ ∧ y = .lit (.string t) ∧ t.length ≤ maxLen := by
  obtain ⟨s, rfl, hz, hl⟩ := plainElem_string_inv he h
  injection hz with h1 h2
  exact ⟨s.data.toList, rfl, h1, by rw [Array.length_toList]; exact hl⟩
section
variable {H : Type} {w w' : World} {b n : Nat} {f : List UInt8 → Option (List UInt8)}
theorem StrM.new (w : World) : StrM H (w.alloc (.map #[] 0)) w.heap.size 0 (fun _ => none) := by
  refine ⟨_, World.ownsMap_made _ _ _ _, ⟨fun s _ => ⟨rfl, ?_⟩, fun s t h => by cases h⟩⟩
  exact atKey_of_not_has rfl _
theorem StrM.lt (h : StrM H w b n f) : b < w.heap.size := by obtain ⟨D, h, _⟩ := h; exact h.lt
theorem StrM.same (h : StrM H w b n f) (e : w'.heap[b]? = w.heap[b]?) : StrM H w' b n f := by
  obtain ⟨D, ⟨es, clock, hb, hr⟩, hf⟩ := h
  exact ⟨D, ⟨es, clock, e.trans hb, hr⟩, hf⟩
theorem StrM.below (h : StrM H w b n f) (hb : Below w.heap.size w w') : StrM H w' b n f := h.same (hb.block b h.lt)
theorem StrM.look (h : StrM H w b n f) (s : List UInt8) (hs : s.length ≤ maxLen) :
    (Instr.lookup 70 (.map (some b)) (.string ⟨s.toArray⟩) true).run Try.prog w = .ok (.tuple #[.string ⟨((f s).getD []).toArray⟩, .bool (f s).isSome]) w ∧
    (Instr.lookup 70 (.map (some b)) (.string ⟨s.toArray⟩) false).run Try.prog w = .ok (.string ⟨((f s).getD []).toArray⟩) w := by
  obtain ⟨D, h, hf⟩ := h
  obtain ⟨h1, h2⟩ := hf.at_ s hs
  constructor
  · obtain ⟨v, ps, hrun, hv⟩ := h.look_ok (t := 70) (string_keyed Try.underlying9) Try.underlying70 (z := .string ⟨#[]⟩) (zd := .lit (.string [])) (zp := []) (by kernel_rfl) (plainElem_string Try.underlying9 (s := ⟨#[]⟩) (Nat.zero_le _)) (keyOf_str s hs)
    obtain ⟨t, rfl, ht, _⟩ := plainStr_inv Try.underlying9 hv
    rw [h2] at ht
    replace ht : (f s).getD [] = t := congrArg strOf ht
    rw [hrun, h1, ht]
  · obtain ⟨v, ps, hrun, hv⟩ := h.lookup (t := 70) (string_keyed Try.underlying9) Try.underlying70 (z := .string ⟨#[]⟩) (zd := .lit (.string [])) (zp := []) (by kernel_rfl) (plainElem_string Try.underlying9 (s := ⟨#[]⟩) (Nat.zero_le _)) (keyOf_str s hs)
    obtain ⟨t, rfl, ht, _⟩ := plainStr_inv Try.underlying9 hv
    rw [h2] at ht
    replace ht : (f s).getD [] = t := congrArg strOf ht
    rw [hrun, ht]
theorem StrM.put (h : StrM H w b n f) (s t : List UInt8) (hs : s.length ≤ maxLen) (ht : t.length ≤ maxLen) (hl : n < maxLen) :
    ∃ w', (Instr.mapUpdate 70 (.map (some b)) (.string ⟨s.toArray⟩) (.string ⟨t.toArray⟩)).run Try.prog w = .ok () w' ∧ StrM H w' b (n + 1) (fun k => if k = s then some t else f k) ∧ w.grownBy w' (some b) := by
  obtain ⟨D, h, hf⟩ := h
  have hm := h.isMap
  obtain ⟨w', hrun, hown, hg⟩ := h.update (t := 70) (e := 9) (string_keyed Try.underlying9) Try.underlying70 hl (keyOf_str s hs) (plainElem_string Try.underlying9 (s := ⟨t.toArray⟩) (by simpa [ByteArray.size] using ht))
  refine ⟨w', hrun, ⟨_, hown, ⟨fun k hk => ?_, fun k u => ?_⟩⟩, hg⟩
  · by_cases e : k = s
    · subst e
      show _ = Option.isSome (if k = k then some t else f k) ∧ _ = DataW.lit (.string ((if k = k then some t else f k).getD []))
      rw [if_pos rfl]
      have hkk : WideAt.IsKeyLit (Lit.string k) := trivial
      exact ⟨has_put_same hm hkk _, atKey_put_same hm hkk _ _⟩
    · show _ = Option.isSome (if k = s then some t else f k) ∧ _ = DataW.lit (.string ((if k = s then some t else f k).getD []))
      rw [if_neg e]
      have hne : Lit.string k ≠ Lit.string s := fun h => e (by injection h)
      obtain ⟨h1, h2⟩ := hf.at_ k hk
      exact ⟨by rw [has_put_other hne]; exact h1, by rw [atKey_put_other hne]; exact h2⟩
  · show (if k = s then some t else f k) = some u → _
    by_cases e : k = s
    · rw [if_pos e]
      rintro ⟨⟩
      exact ⟨e ▸ hs, ht⟩
    · rw [if_neg e]
      exact hf.sz k u
/-- what the keys of a map that came in hold -/
noncomputable def fOf (D : DataW H) : List UInt8 → Option (List UInt8) := fun s => if s.length ≤ maxLen ∧ Maps.has D (.string s) = true then some (strOf (D.atKey (.string s) (.lit (.string [])))) else none
theorem StrM.of_owns {D : DataW H} (h : w.ownsMap (H := H) Try.prog 9 (plainElem Try.prog 9) b n D) : StrM H w b n (fOf D) := by
  have key : ∀ s, s.length ≤ maxLen → ∃ t : List UInt8, D.atKey (.string s) (.lit (.string [])) = .lit (.string t) ∧ t.length ≤ maxLen := fun s hs => by
    obtain ⟨v, ps, _, hv⟩ := h.look_ok (t := 70) (string_keyed Try.underlying9) Try.underlying70 (z := .string ⟨#[]⟩) (zd := .lit (.string [])) (zp := []) (by kernel_rfl) (plainElem_string Try.underlying9 (s := ⟨#[]⟩) (Nat.zero_le _)) (keyOf_str s hs)
    obtain ⟨t, _, ht, hl⟩ := plainStr_inv Try.underlying9 hv
    exact ⟨t, ht, hl⟩
  refine ⟨D, h, ⟨fun s hs => ?_, fun s t => ?_⟩⟩
  · obtain ⟨t, ht, _⟩ := key s hs
    unfold fOf
    cases hh : Maps.has D (.string s) with
    | true => rw [if_pos ⟨hs, rfl⟩, ht]; exact ⟨rfl, rfl⟩
    | false => rw [if_neg (fun h => by cases h.2), atKey_of_not_has hh]; exact ⟨rfl, rfl⟩
  · unfold fOf
    split
    · rename_i hc
      obtain ⟨u, hu, hl⟩ := key s hc.1
      rw [hu]
      rintro ⟨⟩
      exact ⟨hc.1, hl⟩
    · intro h; cases h
theorem StrM.files (h : StrM H w b n f) (hM : MaxAt w) : FilesAt w.heap.size w (.map (some b)) f where
  low := fun k e => by cases e; exact h.lt
  own := rfl
  look := fun w' hw' s hs => (h.same (hw' b h.lt)).look s hs
  size := fun s t e => by obtain ⟨D, _, hf⟩ := h; exact (hf.sz s t e).2
  mx := fun w' hw' => by
    obtain ⟨m, hm⟩ := hM
    exact ⟨m, by unfold World.cell? at hm ⊢; rw [hw' _ (block_lt_of_cell hm)]; exact hm⟩
theorem files_nil (hM : MaxAt w) : FilesAt w.heap.size w (.map none) (fun _ => none) where
  low := fun k e => by cases e
  own := rfl
  look := fun w' hw' s hs => by
    have h1 := Maps.look_nil (w := w') (t := 70) true (string_keyed (P := Try.prog) Try.underlying9) Try.underlying70 (z := .string ⟨#[]⟩) (by kernel_rfl) (keyOf_str s hs)
    have h2 := Maps.look_nil (w := w') (t := 70) false (string_keyed (P := Try.prog) Try.underlying9) Try.underlying70 (z := .string ⟨#[]⟩) (by kernel_rfl) (keyOf_str s hs)
    exact ⟨h1, h2⟩
  size := fun s t e => by cases e
  mx := fun w' hw' => by
    obtain ⟨m, hm⟩ := hM
    exact ⟨m, by unfold World.cell? at hm ⊢; rw [hw' _ (block_lt_of_cell hm)]; exact hm⟩
end
end Go.Proofs.Ytignhjfobcnloaa
end
section
namespace Go.Proofs.Ytignhjfobcnloaa
open Go.RowKit Go.Maps
/-- what few answers: if it answers true, no file is large -/
def FewPost (w : World) (f : List UInt8 → Option (List UInt8)) (e : Ending) (w' : World) : Prop := ∃ z : Bool, e = .returned (.bool z) ∧ (z = true → ∀ s t, f s = some t → s.length + t.length ≤ 4000) ∧ Below w.heap.size w w'
theorem keyStr_inv {P : Program} {k : TypeId} (hk : P.underlying k = some .string) {key : Value} {kl : Lit} (h : keyOf P k key = some kl) : ∃ s : List UInt8, key = .string ⟨s.toArray⟩ ∧ kl = .string s ∧ s.length ≤ maxLen := by
  cases key <;> simp [keyOf, hk, mapKey] at h
  rename_i s
  obtain ⟨h1, rfl⟩ := h
  exact ⟨s.data.toList, rfl, rfl, by rw [Array.length_toList]; exact h1⟩
/-- the sum so far, by what is still to come -/
def FewS (f : List UInt8 → Option (List UInt8)) (S : Nat) (left : Lit → Bool) (cnt : Nat) (v : Int) : Prop :=
  cnt ≤ S ∧ 0 ≤ v ∧ v ≤ ((S - cnt : Nat) : Int) * 1125899906842624 ∧ ∀ s t, f s = some t → left (.string s) = false → (s.length : Int) + (t.length : Int) ≤ v
theorem FewS.step {f : List UInt8 → Option (List UInt8)} {S cnt cnt1 : Nat} {left : Lit → Bool} {v : Int} {s t : List UInt8} (h : FewS f S left cnt v) (hlt : cnt1 < cnt) (hs : s.length ≤ 140737488351232) (ht : t.length ≤ 140737488351232) (hft : f s = some t) :
    FewS f S (fun z => left z && !z.sameKey (.string s)) cnt1 (v + ((s.length : Int) + (t.length : Int))) := by
  obtain ⟨h1, h2, h3, h4⟩ := h
  have h5 : ((S - cnt1 : Nat) : Int) ≥ ((S - cnt : Nat) : Int) + 1 := by omega
  refine ⟨by omega, by omega, by omega, fun a b hab hl => ?_⟩
  change (left (.string a) && !(Lit.string a).sameKey (.string s)) = false at hl
  cases hla : left (.string a) with
  | false => have := h4 a b hab hla; omega
  | true =>
    rw [hla] at hl
    have he : (Lit.string a).sameKey (.string s) = true := by simpa using hl
    have e : a = s := by simpa [Lit.sameKey] using he
    subst e
    rw [hab] at hft
    cases hft
    omega
theorem HoldsS.entry {H : Type} {D : DataW H} {f : List UInt8 → Option (List UInt8)} (h : HoldsS D f) {s t : List UInt8} (hs : s.length ≤ maxLen) (ha : ∀ z, D.atKey (.string s) z = .lit (.string t)) : f s = some t := by
  obtain ⟨h1, h2⟩ := h.at_ s hs
  have hh : Maps.has D (.string s) = true := has_true_of_atKey ha
  rw [ha] at h2
  replace h2 : t = (f s).getD [] := congrArg strOf h2
  rw [hh] at h1
  cases hf : f s with
  | none => rw [hf] at h1; cases h1
  | some u => rw [hf] at h2; rw [h2]; rfl
set_option maxRecDepth 100000 in
set_option maxHeartbeats 2000000 in
theorem few_any {H : Type} (w : World) (b n : Nat) (f : List UInt8 → Option (List UInt8)) (h : StrM H w b n f) (hr : ∀ s t, f s = some t → s.length ≤ 140737488351232 ∧ t.length ≤ 140737488351232) : Calls Try.prog 31 #[.map (some b)] w (FewPost w f) := by
  obtain ⟨D, hown, hf⟩ := h
  have hbl := hown.lt
  have HOWN := Lib.hid hown
  have HF := Lib.hid hf
  have HR := Lib.hid hr
  obtain ⟨S, hS⟩ : ∃ S, Maps.size D = S := ⟨_, rfl⟩
  have HS := Lib.hid hS
  clear hown hf hS hr
  by_cases hsm : S ≤ 60
  · have e60 : decide ((S : Int) ≤ 60) = true := decide_eq_true (by omega)
    go_enter Try.func31, Try.ntmps31
    go_wp2_with (first | (at_range; refine wpList_range_own _ rfl _ 70 rfl 9 9 (string_keyed Try.underlying9) Try.underlying70 _ b n D rfl HOWN.out ?_; intro w0 hrg0 hg0 hs0))
    go_frame
    rw [HS.out] at hrg0
    have HR0 := Lib.hid hrg0
    have HG0 := Lib.hid hg0
    clear hrg0 hg0 hs0
    go_loopw [3] (fun nv wr => ∃ (v : Int) (left : Lit → Bool) (cnt : Nat), nv = .int .i64 v ∧ wr.ranges Try.prog 9 (plainElem Try.prog 9) b w.heap.size n D left cnt ∧ Below w.heap.size w wr ∧ FewS f S left cnt v) (fun _ wr => wr.rangeLeft b w.heap.size)
    case atStart =>
      refine ⟨0, Maps.has D, S, rfl, HR0.out, (Below.refl _ _).grown HG0.out (Nat.le_refl _) (fun j hj => by cases hj), Nat.le_refl _, by omega, by simp, fun s t hst hl => ?_⟩
      have h1 := (HF.out.at_ s (HF.out.sz s t hst).1).1
      rw [hst, hl] at h1
      cases h1
    case round =>
      obtain ⟨v, left, cnt, rfl, hrg, hbl1, hS⟩ := hrel
      have HRG := Lib.hid hrg
      have HBL := Lib.hid hbl1
      have HSS := Lib.hid hS
      clear hrg hbl1 hS
      go_wp2_with (at_next; refine wpList_next_ranges _ rfl _ rfl 9 (string_keyed Try.underlying9) (plainElem Try.prog 9) (fun s : List UInt8 => Value.string ⟨s.toArray⟩) (fun s : List UInt8 => Value.string ⟨s.toArray⟩) (fun key kl hk => by obtain ⟨s, e, _⟩ := keyStr_inv Try.underlying9 hk; exact ⟨s, e⟩) (fun u y hy => by obtain ⟨t, e, _⟩ := plainStr_inv (ps := y.2) Try.underlying9 hy; exact ⟨t, e⟩) b w.heap.size n D left cnt rfl HRG.out ?_ ?_)
      · intro hc0 hl0
        by_cases h4 : v ≤ 4000
        · have e4 : decide (v ≤ 4000) = true := decide_eq_true h4
          go_wp2_with (at_len; refine wpList_len_own _ rfl _ 70 rfl 9 9 Try.underlying70 _ b n D rfl HRG.out.owns ?_; rw [HS.out])
          go_ret
          refine ⟨true, rfl, fun _ s t hst => ?_, HBL.out⟩
          have := HSS.out.2.2.2 s t hst (hl0 _)
          omega
        · have e4 : decide (v ≤ 4000) = false := decide_eq_false h4
          go_wp2_with (at_len; refine wpList_len_own _ rfl _ 70 rfl 9 9 Try.underlying70 _ b n D rfl HRG.out.owns ?_; rw [HS.out])
          go_ret
          exact ⟨false, rfl, fun h => (by cases h), HBL.out⟩
      · intro s c kl y yp w1 cnt1 hkl hlk hyc hat hrg1 hlt hg1 hs1 hen
        obtain ⟨s', es, rfl, hsl⟩ := keyStr_inv Try.underlying9 hkl
        obtain rfl : s = s' := by simpa using es
        obtain ⟨t', et, hy, htl⟩ := plainStr_inv Try.underlying9 hyc
        obtain rfl : c = t' := by simpa using et
        have hfs : f s = some c := HF.out.entry hsl (fun z => (hat z).trans hy)
        obtain ⟨r1, r2⟩ := HR.out s c hfs
        have HN : Hid (FewS f S (fun z => left z && !z.sameKey (.string s)) cnt1 (v + ((s.length : Int) + (c.length : Int)))) := Lib.hid (HSS.out.step hlt r1 r2 hfs)
        have HG1 := Lib.hid hg1
        have HRG1 := Lib.hid hrg1
        have v0 := HSS.out.2.1
        have v1 := HSS.out.2.2.1
        have v2 := HSS.out.1
        have v3 : v ≤ 67553994410557440 := by have : ((S - cnt : Nat) : Int) ≤ 60 := by omega
                                              omega
        have HLT := Lib.hid hlt
        clear hkl hyc hat hg1 hrg1 hfs hy es et hlk hlt v1 hsl htl
        go_wp2
        go_roundw
        case rel => exact ⟨_, _, _, rfl, HRG1.out, HBL.out.grown HG1.out HBL.out.size (fun j hj => by cases hj; exact Nat.le_refl _), HN.out⟩
        case measure => rw [HRG1.out.left_eq, HRG.out.left_eq]; exact HLT.out
  · have e60 : decide ((S : Int) ≤ 60) = false := decide_eq_false (by omega)
    go_enter Try.func31, Try.ntmps31
    go_wp2_with (first | (at_range; refine wpList_range_own _ rfl _ 70 rfl 9 9 (string_keyed Try.underlying9) Try.underlying70 _ b n D rfl HOWN.out ?_; intro w0 hrg0 hg0 hs0))
    go_frame
    have HR0 := Lib.hid hrg0
    have HG0 := Lib.hid hg0
    clear hrg0 hg0 hs0
    go_loopw [3] (fun nv wr => ∃ (v : Int) (left : Lit → Bool) (cnt : Nat), nv = .int .i64 v ∧ wr.ranges Try.prog 9 (plainElem Try.prog 9) b w.heap.size n D left cnt ∧ Below w.heap.size w wr) (fun _ wr => wr.rangeLeft b w.heap.size)
    case atStart => exact ⟨0, Maps.has D, _, rfl, HR0.out, (Below.refl _ _).grown HG0.out (Nat.le_refl _) (fun j hj => by cases hj)⟩
    case round =>
      obtain ⟨v, left, cnt, rfl, hrg, hbl1⟩ := hrel
      have HRG := Lib.hid hrg
      have HBL := Lib.hid hbl1
      clear hrg hbl1
      go_wp2_with (at_next; refine wpList_next_ranges _ rfl _ rfl 9 (string_keyed Try.underlying9) (plainElem Try.prog 9) (fun s : List UInt8 => Value.string ⟨s.toArray⟩) (fun s : List UInt8 => Value.string ⟨s.toArray⟩) (fun key kl hk => by obtain ⟨s, e, _⟩ := keyStr_inv Try.underlying9 hk; exact ⟨s, e⟩) (fun u y hy => by obtain ⟨t, e, _⟩ := plainStr_inv (ps := y.2) Try.underlying9 hy; exact ⟨t, e⟩) b w.heap.size n D left cnt rfl HRG.out ?_ ?_)
      · intro hc0 hl0
        go_wp2_with (at_len; refine wpList_len_own _ rfl _ 70 rfl 9 9 Try.underlying70 _ b n D rfl HRG.out.owns ?_; rw [HS.out])
        go_ret
        exact ⟨false, rfl, fun h => (by cases h), HBL.out⟩
      · intro s c kl y yp w1 cnt1 hkl hlk hyc hat hrg1 hlt hg1 hs1 hen
        have HG1 := Lib.hid hg1
        have HRG1 := Lib.hid hrg1
        have HLT := Lib.hid hlt
        clear hkl hyc hat hg1 hrg1 hlk hlt
        go_wp2
        go_roundw
        case rel => exact ⟨_, _, _, rfl, HRG1.out, HBL.out.grown HG1.out HBL.out.size (fun j hj => by cases hj; exact Nat.le_refl _)⟩
        case measure => rw [HRG1.out.left_eq, HRG.out.left_eq]; exact HLT.out
theorem few_nil (w : World) : Calls Try.prog 31 #[.map none] w (FewPost w fun _ => none) := by
  have hrg := run_range_nilMap (P := Try.prog) w 70 9 9 Try.underlying70
  have hnx : ∀ ty, (Instr.next (.pointer (some ⟨w.heap.size, 0, none⟩)) false ty).run Try.prog (w.alloc (.mapIter none 0 #[] 0)) = _ := fun ty => run_next_nilMap _ ty 0 0 #[]
  have hln := Maps.len_nil (P := Try.prog) (w := w.alloc (.mapIter none 0 #[] 0)) Try.underlying70
  go_enter Try.func31, Try.ntmps31
  go_wp2
  refine wp_loop_rounds 1 ?_
  rw [rounds_succ]
  go_wp2
  go_ret
  exact ⟨true, rfl, fun _ s t h => (by cases h), new_ (Below.refl _ _) _⟩
end Go.Proofs.Ytignhjfobcnloaa
end
section
namespace Go.Proofs.Ytignhjfobcnloaa
open Go.ChangeShapes Go.WideShapes Go.WideElems Go.RowKit Go.Maps
/-- the map mb of the call: what its keys hold; none of them is large -/
def FilesM (H : Type) (w : World) (mb : Option Nat) (f : List UInt8 → Option (List UInt8)) : Prop :=
  (mb = none ∧ f = fun _ => none) ∨ ∃ b n, mb = some b ∧ StrM H w b n f ∧ n ≤ 140737488351232 ∧ ∀ s t, f s = some t → s.length ≤ 140737488351232 ∧ t.length ≤ 140737488351232
theorem mem_entries {H : Type} {P : Program} {e : TypeId} {p : Lit × DataW H} {n : Nat} : ∀ {es : List (Lit × DataW H)}, p ∈ es → n ∈ DataW.weightsEntry P e p → n ∈ DataW.weightsEntries P e es
  | [], h, _ => by cases h
  | q :: es, h, hn => by
    unfold DataW.weightsEntries
    rcases List.mem_cons.1 h with rfl | h
    · exact List.mem_append_left _ hn
    · exact List.mem_append_right _ (mem_entries h hn)
theorem fOf_sized {H : Type} {P : Program} {e : TypeId} {es : List (Lit × DataW H)} (h : ∀ n ∈ DataW.weightsEntries P e es, n ≤ 140737488351232) (s t : List UInt8) (hf : fOf (.map es) s = some t) : s.length ≤ 140737488351232 ∧ t.length ≤ 140737488351232 := by
  unfold fOf at hf
  split at hf
  · rename_i hc
    obtain ⟨_, hh⟩ := hc
    rw [has_eq] at hh
    have h1 : ∃ p, es.find? (fun p => p.1.sameKey (.string s)) = some p := by
      cases hfi : es.find? (fun p => p.1.sameKey (.string s)) with
      | some p => exact ⟨p, rfl⟩
      | none =>
        obtain ⟨p, hp, hk⟩ := List.any_eq_true.1 hh
        exact absurd hk (by simpa using List.find?_eq_none.1 hfi p hp)
    obtain ⟨⟨k, d⟩, hp⟩ := h1
    have hm := List.mem_of_find?_eq_some hp
    have hk := List.find?_some hp
    have ek : k = .string s := by
      cases k <;> simp [Lit.sameKey] at hk
      rw [hk]
    subst ek
    have ha : (DataW.map es).atKey (.string s) (.lit (.string [])) = d := by
      unfold DataW.atKey
      simp only [hp]
    rw [ha] at hf
    cases hf
    refine ⟨h _ (mem_entries hm (by unfold DataW.weightsEntry; exact List.mem_cons_self ..)), ?_⟩
    cases d with
    | lit l =>
      cases l with
      | string u => exact h _ (mem_entries hm (by unfold DataW.weightsEntry DataW.weights; exact List.mem_cons_of_mem _ (List.mem_cons_self ..)))
      | _ => exact Nat.zero_le _
    | _ => exact Nat.zero_le _
  · cases hf
set_option maxRecDepth 100000 in
theorem files_open {H : Type} {enc : TypeId × Value → H} {W : World} {fuel : Nat} {mb : Option Nat} {x : DataW H × List MemPlace} {base : Nat} {sp : Nat → Bool} {held : Bool} (h : DataW.trod enc Try.prog W base sp held fuel 70 (Value.map mb).cells.toList = some x)
    (hsz : ∀ n ∈ DataW.weights Try.prog 70 x.1, n ≤ 140737488351232) : ∃ f, FilesM H W mb f := by
  rcases open_map Try.underlying70 h with ⟨hcs, hx⟩ | ⟨bm, es, clock, m, rfl, hcs, hb, _, F, hx⟩
  · simp [Value.cells] at hcs
    exact ⟨_, .inl ⟨hcs, rfl⟩⟩
  · simp [Value.cells] at hcs
    subst hcs
    have hown := World.ownsMap_of_fit (R := plainElem Try.prog 9) hb F (fun x _ z hz => elemAt_plainElem_string Try.underlying9 hz)
    rw [hx] at hsz
    have hsz2 : ∀ n ∈ es.size * (Try.prog.bytesOf 9 + Try.prog.bytesOf 9) :: DataW.weightsEntries Try.prog 9 ((es.toList.map (rg Try.prog 9 (elemAt enc Try.prog W base sp held m 9))).foldr DataW.insert []), n ≤ 140737488351232 := by
      intro n hn
      refine hsz n ?_
      unfold DataW.weights
      rw [Try.underlying70]
      simp only
      rw [length_read]
      exact hn
    refine ⟨_, .inr ⟨bm, es.size, rfl, StrM.of_owns hown, ?_, fun s t hf => fOf_sized (fun n hn => hsz2 n (List.mem_cons_of_mem _ hn)) s t hf⟩⟩
    have h1 := hsz2 _ (List.mem_cons_self ..)
    have h2 : Try.prog.bytesOf 9 = 16 := by kernel_rfl
    rw [h2] at h1
    omega
theorem FilesM.at_ {H : Type} {w : World} {mb : Option Nat} {f : List UInt8 → Option (List UInt8)} (h : FilesM H w mb f) (hM : MaxAt w) : FilesAt w.heap.size w (.map mb) f := by
  rcases h with ⟨rfl, rfl⟩ | ⟨b, n, rfl, h, _, _⟩
  · exact files_nil hM
  · exact h.files hM
theorem FilesM.few {H : Type} {w : World} {mb : Option Nat} {f : List UInt8 → Option (List UInt8)} (h : FilesM H w mb f) : Calls Try.prog 31 #[.map mb] w (FewPost w f) := by
  rcases h with ⟨rfl, rfl⟩ | ⟨b, n, rfl, h, _, hr⟩
  · exact few_nil w
  · exact few_any w b n f h hr
end Go.Proofs.Ytignhjfobcnloaa
end
