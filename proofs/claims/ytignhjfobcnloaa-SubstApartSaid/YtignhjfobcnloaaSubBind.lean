/- The binder of bindings, and what it says of a symbol. -/
import Derived.Test.YtignhjfobcnloaaBindMap
import Derived.Test.YtignhjfobcnloaaSubstPlain
import Derived.Test.YtignhjfobcnloaaStrMore
namespace Go.Proofs.Ytignhjfobcnloaa
open Go.RowKit
/-- the slice value v reads as the bindings l -/
def BindAt (w : World) (v : Value) (l : List BindD) : Prop :=
  ∃ A c, v = .slice A l.length c ∧ l.length ≤ c ∧ l.length ≤ maxLen ∧ ∀ k x, l[k]? = some x → ∃ b o tv, A = some ⟨b, o, none⟩ ∧ w.cell? ⟨b, o + k * 2, none⟩ = some (.string ⟨x.1.toArray⟩) ∧ w.cell? ⟨b, o + k * 2 + 1, none⟩ = some tv ∧ Strs w tv x.2
theorem BindAt.below {w w' : World} {v : Value} {l : List BindD} (h : BindAt w v l) (hb : Below w.heap.size w w') : BindAt w' v l := by
  obtain ⟨A, c, hv, hc, hm, hx⟩ := h
  refine ⟨A, c, hv, hc, hm, fun k x hk => ?_⟩
  obtain ⟨b, o, tv, ha, h1, h2, h3⟩ := hx k x hk
  exact ⟨b, o, tv, ha, (hb.cell (p := ⟨b, o + k * 2, none⟩) (block_lt_of_cell h1)).trans h1, (hb.cell (p := ⟨b, o + k * 2 + 1, none⟩) (block_lt_of_cell h2)).trans h2, h3.below hb⟩
theorem BindAt.nil_ {w : World} : BindAt w (.slice none 0 0) [] := ⟨none, 0, rfl, Nat.le_refl _, Nat.zero_le _, fun k x h => by simp at h⟩
/-- what f says of each symbol, where the slices read in w, is what the bindings say -/
def saysAt (w : World) (f : List UInt8 → Option Value) (l : List BindD) : Prop := ∀ s, match boundS l s with | some t => ∃ v, f s = some v ∧ Strs w v t | none => f s = none
/-- block b is the binder of the bindings l -/
def BinderAt (w : World) (b : Nat) (l : List BindD) : Prop := ∃ n f, n ≤ l.length ∧ BMap w b n f ∧ saysAt w f l
theorem saysAt.below {w w' : World} {f : List UInt8 → Option Value} {l : List BindD} (h : saysAt w f l) (hb : Below w.heap.size w w') : saysAt w' f l := by
  intro s
  have := h s
  cases hs : boundS l s with
  | none => rw [hs] at this; exact this
  | some t => rw [hs] at this; obtain ⟨v, h1, h2⟩ := this; exact ⟨v, h1, h2.below hb⟩
theorem BinderAt.below {w w' : World} {b : Nat} {l : List BindD} (h : BinderAt w b l) (hb : Below w.heap.size w w') : BinderAt w' b l := by
  obtain ⟨n, f, hn, hm, hs⟩ := h
  exact ⟨n, f, hn, hm.below hb, hs.below hb⟩
theorem BinderAt.lt {w : World} {b : Nat} {l : List BindD} (h : BinderAt w b l) : b < w.heap.size := by obtain ⟨n, f, _, h, _⟩ := h; exact h.lt
theorem boundS_take {l : List BindD} {k : Nat} {x : BindD} (h : l[k]? = some x) (s : List UInt8) : boundS (l.take (k + 1)) s = (boundS (l.take k) s).or (if x.1 = s then some x.2 else none) := by
  rw [List.take_add_one, h, boundS_append]
  congr 1
  show boundS [x] s = _
  rw [boundS_cons, boundS_nil]
theorem says_keep {w : World} {f : List UInt8 → Option Value} {l : List BindD} {k : Nat} {x : BindD} (h : l[k]? = some x) (hs : saysAt w f (l.take k)) (hb : (boundS (l.take k) x.1).isSome = true) : saysAt w f (l.take (k + 1)) := by
  intro s
  rw [boundS_take h]
  have := hs s
  cases hc : boundS (l.take k) s with
  | some t => rw [hc] at this; exact this
  | none =>
    rw [hc] at this
    by_cases e : x.1 = s
    · subst e; rw [hc] at hb; cases hb
    · simp [e]; exact this
theorem says_put {w : World} {f : List UInt8 → Option Value} {l : List BindD} {k : Nat} {x : BindD} {v : Value} (h : l[k]? = some x) (hs : saysAt w f (l.take k)) (hb : boundS (l.take k) x.1 = none) (hv : Strs w v x.2) :
    saysAt w (fun t => if t = x.1 then some v else f t) (l.take (k + 1)) := by
  intro s
  rw [boundS_take h]
  have := hs s
  by_cases e : x.1 = s
  · subst e
    rw [hb]
    simp
    exact hv
  · have e' : ¬ s = x.1 := fun hh => e hh.symm
    cases hc : boundS (l.take k) s with
    | some t =>
      rw [hc] at this
      simp [e']
      exact this
    | none =>
      rw [hc] at this
      simp [e, e']
      exact this
theorem says_some {w : World} {f : List UInt8 → Option Value} {l : List BindD} (hs : saysAt w f l) (s : List UInt8) : (f s).isSome = (boundS l s).isSome := by
  have := hs s
  cases hc : boundS l s with
  | some t => rw [hc] at this; obtain ⟨v, h1, _⟩ := this; rw [h1]; rfl
  | none => rw [hc] at this; rw [this]; rfl
set_option maxRecDepth 20000 in
set_option maxHeartbeats 1000000 in
theorem bind_any (w : World) (v : Value) (l : List BindD) (h : BindAt w v l) (hsz : ∀ x ∈ l, x.1.length ≤ maxLen) (hl : l.length ≤ 1000000) :
    Calls Try.prog 49 #[v] w fun e w' => ∃ b, e = .returned (.map (some b)) ∧ BinderAt w' b l ∧ Below w.heap.size w w' := by
  have h0 := h
  obtain ⟨A, c, rfl, hc, hm, hx⟩ := h
  unfold maxLen at hm
  clear hx
  have hmm := @run_makeMap Try.prog
  go_enter Try.func49, Try.ntmps49
  go_wp2
  go_loopw [11] (fun i wr => ∃ (k n : Nat) (f : List UInt8 → Option Value), k ≤ l.length ∧ n ≤ k ∧ i = .int .i64 k ∧ BMap wr w.heap.size n f ∧ saysAt w f (l.take k) ∧ Below w.heap.size w wr) (fun i _ => l.length - (intOf i).toNat)
  case atStart => exact ⟨0, 0, _, Nat.zero_le _, Nat.le_refl _, rfl, BMap.new w, fun s => by simp [boundS], new_ (Below.refl _ _) _⟩
  case round =>
    obtain ⟨k, n, f, hk, hnk, rfl, hbm, hsay, hb⟩ := hrel
    have HS := Lib.hid hsay
    have HBM := Lib.hid hbm
    have hwz := hb.size
    have hbl := hbm.lt
    clear hsay hbm
    by_cases hlt : k < l.length
    · obtain ⟨y, hy⟩ : ∃ y, l[k]? = some y := ⟨_, List.getElem?_eq_getElem hlt⟩
      obtain ⟨A', c', hvv, _, _, hx⟩ := h0.below hb
      obtain ⟨rfl, _, rfl⟩ := (by simpa using hvv : A = A' ∧ True ∧ c = c')
      obtain ⟨b, o, tv, rfl, g1, g2, g3⟩ := hx k y hy
      obtain ⟨A'', c'', hvv2, _, _, hx2⟩ := h0
      obtain ⟨rfl, _, rfl⟩ := (by simpa using hvv2 : some ⟨b, o, none⟩ = A'' ∧ True ∧ c = c'')
      obtain ⟨b', o', tv', ha, g1', g2', g3'⟩ := hx2 k y hy
      obtain ⟨rfl, rfl⟩ := (by simpa using ha : b = b' ∧ o = o')
      have htv : tv = tv' := by
        have := (hb.cell (p := ⟨b, o + k * 2 + 1, none⟩) (block_lt_of_cell g2')).trans g2'
        rw [g2] at this; injection this
      subst htv
      obtain ⟨tA, tc, rfl⟩ := g3'.form
      have hys := hsz y (List.mem_of_getElem? hy)
      have HY := Lib.hid hy
      have HG3 := Lib.hid g3'
      clear hx hx2 hy hvv hvv2 ha g1' g2' g3 g3'
      have hlook := (HBM.out.below ((Below.refl wr.heap.size wr).alloc (Nat.le_refl _) (.cells #[.string ⟨y.1.toArray⟩, .slice tA y.2.length tc] 28))).look y.1 hys
      by_cases hbd : (boundS (l.take k) y.1).isSome = true
      · have e1 : (f y.1).isSome = true := by rw [says_some HS.out]; exact hbd
        rw [e1] at hlook
        have HB := Lib.hid hbd
        clear hbd e1
        go_wp2
        go_roundw
        case rel => exact ⟨k + 1, n, f, by omega, by omega, by go_num, HBM.out.below ((Below.refl _ _).alloc (Nat.le_refl _) _), says_keep HY.out HS.out HB.out, hb.alloc hwz _⟩
        case measure => simp [intOf]; omega
      · have e1 : (f y.1).isSome = false := by rw [says_some HS.out]; simpa using hbd
        have hbn : boundS (l.take k) y.1 = none := by simpa using hbd
        rw [e1] at hlook
        have HB := Lib.hid hbn
        obtain ⟨w2, hput, hbm2, hg2⟩ := (HBM.out.below ((Below.refl wr.heap.size wr).alloc (Nat.le_refl _) (.cells #[.string ⟨y.1.toArray⟩, .slice tA y.2.length tc] 28))).put y.1 (.slice tA y.2.length tc) hys (by unfold maxLen; omega)
        have HBM2 := Lib.hid hbm2
        clear hbd hbn e1 hbm2
        go_wp2
        go_roundw
        case rel => exact ⟨k + 1, n + 1, _, by omega, by omega, by go_num, HBM2.out, says_put HY.out HS.out HB.out HG3.out, (hb.alloc hwz _).grown hg2 (by simp; omega) (fun j ej => by cases ej; exact Nat.le_refl _)⟩
        case measure => simp [intOf]; omega
    · obtain rfl : k = l.length := by omega
      rw [List.take_length] at HS
      go_wp2
      go_ret
      exact ⟨_, rfl, ⟨n, f, hnk, HBM.out, HS.out.below hb⟩, hb⟩
theorem image_any (w : World) (b : Nat) (l : List BindD) (s : List UInt8) (h : BinderAt w b l) (hs : s.length ≤ maxLen) :
    Calls Try.prog 82 #[.map (some b), .string ⟨s.toArray⟩] w fun e w' => ∃ v, e = .returned v ∧ Strs w' v (imageS l s) ∧ Below w.heap.size w w' := by
  obtain ⟨n, f, hn, hm, hsay⟩ := h
  have hlook := hm.look s hs
  have hss := hsay s
  cases hc : boundS l s with
  | some t =>
    rw [hc] at hss
    obtain ⟨v, h1, h2⟩ := hss
    rw [h1] at hlook
    have HI : Hid (imageS l s = t) := Lib.hid (imageS_some hc)
    obtain ⟨tA, tc, rfl⟩ := h2.form
    simp only [Option.getD_some, Option.isSome_some] at hlook
    clear h1 hc hsay hm
    go_enter Try.func82, Try.ntmps82
    go_wp2
    go_ret
    exact ⟨_, rfl, by rw [HI.out]; exact h2, Below.refl _ _⟩
  | none =>
    rw [hc] at hss
    have h1 : f s = none := hss
    rw [h1] at hlook
    have HI : Hid (imageS l s = [s]) := Lib.hid (imageS_none hc)
    simp only [Option.getD_none, Option.isSome_none] at hlook
    clear h1 hc hsay hm hss
    go_enter Try.func82, Try.ntmps82
    go_wp2
    go_ret
    refine ⟨_, rfl, ?_, new_ (Below.refl _ _) _⟩
    rw [HI.out]
    exact Rds.lit w 9 #[.string ⟨s.toArray⟩] 1 rfl (by decide)
end Go.Proofs.Ytignhjfobcnloaa
