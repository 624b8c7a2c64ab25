/- The replacer is built. -/
import Derived.Test.YthkeggmloajapaaMarkRep
import Derived.Lib.ConvBytes
namespace Go.Proofs.Ythkeggmloajapaa
open Go.RowKit
/-- the old and the new strings -/
def pairsL : List (List UInt8) := [[96], [96, 96], [126], [126, 126], [91], [91, 91]]
/-- a byte's new string, as the replacer holds it -/
def HasTwo (lo : Nat) (w : World) (G : Nat) (cs : Array Value) (b : UInt8) : Prop := ∃ D cD, cs[b.toNat]? = some (.slice (some ⟨D, 0, none⟩) 2 cD) ∧ 2 ≤ cD ∧ (D ≠ G ∧ lo ≤ D) ∧ (∃ c fr, w.heap[D]? = some (.cells c 5 fr)) ∧ ∀ (j : Nat) v, [byteV b, byteV b][j]? = some v → w.cell? ⟨D, j, none⟩ = some v
theorem HasTwo.kept {lo : Nat} {w w' : World} {G : Nat} {cs : Array Value} {b : UInt8} (h : HasTwo lo w G cs b) (hk : ∀ D c fr, w.heap[D]? = some (.cells c 5 fr) → D ≠ G → w'.heap[D]? = w.heap[D]?) : HasTwo lo w' G cs b := by
  obtain ⟨D, cD, h1, h2, h3, ⟨c, fr, h4⟩, h5⟩ := h
  refine ⟨D, cD, h1, h2, h3, ⟨c, fr, (hk D c fr h4 h3.1).trans h4⟩, fun j v hv => ?_⟩
  rw [← h5 j v hv]
  unfold World.cell?
  rw [hk D c fr h4 h3.1]
/-- the replacer behind some bytes -/
structure RepI (w0 W : World) (G : Nat) (cs : Array Value) (tv : Value) (done : List UInt8) : Prop where
  row : Row W G 116 cs
  size : cs.size = 257
  last : cs[256]? = some tv
  own : W.ownsRow w0.heap.size 9 1 tv done.length (done.map fun x => .string ⟨#[x]⟩)
  zero : ∀ k, k < 256 → (∀ b ∈ done, b.toNat ≠ k) → cs[k]? = some (.slice none 0 0)
  two : ∀ b ∈ done, HasTwo w0.heap.size W G cs b
  lo : w0.heap.size ≤ G
  below : Below w0.heap.size w0 W
theorem below_bytes (W : World) (e : TypeId) (s : ByteArray) : Below W.heap.size W (Lib.bytesWorld W e s) :=
  ⟨rfl, rfl, rfl, by rw [Lib.bytesWorld_size]; omega, fun k hk => Lib.bytesWorld_at_old W e s k hk⟩
theorem RepI.step {w0 W W2 W3 : World} {G : Nat} {cs : Array Value} {tv v' : Value} {done : List UInt8} {x : UInt8} (h : RepI w0 W G cs tv done) (hx : ∀ b ∈ done, b ≠ x) (hb : Below W.heap.size W W2) (hg : W2.grownBy W3 tv.ownBlock)
    (ho : W3.ownsRow w0.heap.size 9 1 v' (done.length + 1) ((done.map fun x => .string ⟨#[x]⟩) ++ [.string ⟨#[x]⟩])) (s : ByteArray) (hs : s = ⟨#[x, x]⟩) :
    RepI w0 ((Lib.bytesWorld (W3.setCell ⟨G, 256, none⟩ v') 5 s).setCell ⟨G, x.toNat, none⟩ (.slice (some ⟨(W3.setCell ⟨G, 256, none⟩ v').heap.size, 0, none⟩) 2 (grownCap (W3.setCell ⟨G, 256, none⟩ v') 2 0 5))) G
      ((cs.setIfInBounds 256 v').setIfInBounds x.toNat (.slice (some ⟨(W3.setCell ⟨G, 256, none⟩ v').heap.size, 0, none⟩) 2 (grownCap (W3.setCell ⟨G, 256, none⟩ v') 2 0 5))) v' (done ++ [x]) := by
  subst hs
  have hlt := h.row.lt
  have hr2 := h.row.below hb hlt
  have ho2 := own_below h.own hb
  have hr3 := hr2.grown hg (fun e => own_far ho2 hr2 (by decide) e.symm)
  have hr4 := hr3.set 256 v'
  obtain ⟨W4, hW4⟩ : ∃ W4, W3.setCell ⟨G, 256, none⟩ v' = W4 := ⟨_, rfl⟩
  have ho4 : W4.ownsRow w0.heap.size 9 1 v' (done.length + 1) ((done.map fun x => .string ⟨#[x]⟩) ++ [.string ⟨#[x]⟩]) := hW4 ▸ ho.kept (set_grown _ _ _ _) (.inr (own_far ho hr3 (by decide)))
  rw [hW4] at hr4 ⊢
  obtain ⟨W5, hW5⟩ : ∃ W5, Lib.bytesWorld W4 5 ⟨#[x, x]⟩ = W5 := ⟨_, rfl⟩
  have hb5 : Below W4.heap.size W4 W5 := hW5 ▸ below_bytes W4 _ _
  have hr5 := hr4.below hb5 hr4.lt
  have ho5 := own_below ho4 hb5
  have hxn := x.toNat_lt
  have hsz4 : W3.heap.size = W4.heap.size := by rw [← hW4]; simp [World.setCell]
  have hlt4 : G < W4.heap.size := hr4.lt
  have hb04 : Below w0.heap.size w0 W4 := by
    rw [← hW4]
    exact (((h.below.trans (hb.mono h.below.size)).grown hg (Nat.le_trans h.below.size hb.size) fun k e => (ho2.lt k e).1)).trans (below_set _ h.lo)
  rw [hW5]
  refine ⟨hr5.set x.toNat _, ?_, ?_, ?_, ?_, ?_, h.lo, (hb04.trans (hb5.mono hb04.size)).trans (below_set _ h.lo)⟩
  · rw [Array.size_setIfInBounds, Array.size_setIfInBounds, h.size]
  · rw [Array.getElem?_setIfInBounds, if_neg (by omega), Array.getElem?_setIfInBounds, if_pos rfl, if_pos (by rw [h.size]; decide)]
  · have := ho5.kept (set_grown W5 G x.toNat (.slice (some ⟨W4.heap.size, 0, none⟩) 2 (grownCap W4 2 0 5))) (.inr (own_far ho5 hr5 (by decide)))
    rw [List.length_append, List.map_append]
    exact this
  · intro k hk hn
    rw [Array.getElem?_setIfInBounds, if_neg (by
      have := hn x (by simp)
      omega), Array.getElem?_setIfInBounds, if_neg (by omega)]
    exact h.zero k hk fun b hb => hn b (by simp [hb])
  · intro b hb'
    rcases List.mem_append.1 hb' with hb' | hb'
    · have hbx : b.toNat ≠ x.toNat := fun e => hx b hb' (UInt8.toNat_inj.1 e)
      have hbn := b.toNat_lt
      obtain ⟨D, cD, h1, h2⟩ := h.two b hb'
      have h6 : HasTwo w0.heap.size W G ((cs.setIfInBounds 256 v').setIfInBounds x.toNat (.slice (some ⟨W4.heap.size, 0, none⟩) 2 (grownCap W4 2 0 5))) b :=
        ⟨D, cD, by rw [Array.getElem?_setIfInBounds, if_neg (fun e => hbx e.symm), Array.getElem?_setIfInBounds, if_neg (by omega)]; exact h1, h2⟩
      refine h6.kept fun D c fr hD hne => ?_
      have hDlt := (Array.getElem?_eq_some_iff.1 hD).1
      have e2 : W2.heap[D]? = W.heap[D]? := hb.block D hDlt
      have e3 : W3.heap[D]? = W2.heap[D]? := hg.block D (by have := hb.size; omega) (fun e => by
        rcases ho2.2 with ⟨rfl, _⟩ | ⟨k, cap, cur, rfl, _, hh, _⟩
        · cases e
        · obtain rfl : D = k := by simpa [Value.ownBlock] using e
          rw [e2, hD] at hh
          simp at hh)
      have e4 : W4.heap[D]? = W3.heap[D]? := by rw [← hW4]; exact Below.heap_setCell _ _ _ _ (by dsimp only; exact hne)
      have e5 : W5.heap[D]? = W4.heap[D]? := hb5.block D (by have := hb.size; have := hg.size; omega)
      have e6 := Below.heap_setCell W5 ⟨G, x.toNat, none⟩ (.slice (some ⟨W4.heap.size, 0, none⟩) 2 (grownCap W4 2 0 5)) D (by dsimp only; exact hne)
      rw [e6, e5, e4, e3, e2]
    · obtain rfl : b = x := by simpa using hb'
      have hbn := b.toNat_lt
      refine ⟨W4.heap.size, grownCap W4 2 0 5, ?_, grownCap_ge _ _ _ _, ⟨by omega, hb04.size⟩, ?_, ?_⟩
      · rw [Array.getElem?_setIfInBounds, if_pos rfl, if_pos (by rw [Array.size_setIfInBounds, h.size]; omega)]
      · have hn5 := Lib.bytesWorld_at_new W4 5 ⟨#[b, b]⟩
        rw [hW5] at hn5
        exact ⟨_, _, (Below.heap_setCell W5 ⟨G, b.toNat, none⟩ _ W4.heap.size (by dsimp only; omega)).trans hn5⟩
      · intro j v hv
        have hj : j < 2 := (List.getElem?_eq_some_iff.1 hv).1
        have e6 : (W5.setCell ⟨G, b.toNat, none⟩ (.slice (some ⟨W4.heap.size, 0, none⟩) 2 (grownCap W4 2 0 5))).cell? ⟨W4.heap.size, j, none⟩ = W5.cell? ⟨W4.heap.size, j, none⟩ := by
          unfold World.cell?
          rw [Below.heap_setCell W5 ⟨G, b.toNat, none⟩ _ W4.heap.size (by dsimp only; omega)]
        rw [e6, ← hW5, Lib.bytesWorld_cell W4 5 ⟨#[b, b]⟩ j hj]
        match j, hv with
        | 0, hv => simpa [byteV, u8] using hv
        | 1, hv => simpa [byteV, u8] using hv
theorem RepI.done {w0 W : World} {G : Nat} {cs : Array Value} {tv : Value} (h : RepI w0 W G cs tv threeL) : RepAt w0.heap.size W G := by
  obtain ⟨T, cap, rfl⟩ := own_some h.own (by decide)
  refine ⟨cs, T, cap, ⟨h.lo, (h.own.lt T rfl).1⟩, h.row, h.last, ?_, fun j x hx => ?_, fun b hb => h.zero b.toNat b.toNat_lt fun b' hb' e => ?_, fun b hb => ?_⟩
  · rcases h.own.2 with ⟨_, h0⟩ | ⟨g, c, cur, he, _, _, hc, _⟩
    · cases h0
    · obtain ⟨_, rfl⟩ := (by simpa using he : T = g ∧ cap = c)
      exact hc
  · have := h.own.cells rfl j (.string ⟨#[x]⟩) (by rw [List.getElem?_map, hx]; rfl)
    rwa [addr_add, Nat.zero_add] at this
  · have h1 : special b' = true := by
      simp [threeL] at hb'
      rcases hb' with rfl | rfl | rfl <;> rfl
    rw [UInt8.toNat_inj.1 e, hb] at h1
    cases h1
  · obtain ⟨D, cD, h1, h2, h3, _, h5⟩ := h.two b (by
      simp [special] at hb
      simp [threeL]
      rcases hb with h | h | h <;> simp [h])
    exact ⟨D, cD, h1, ⟨h2, h3.2⟩, h5⟩
theorem set_ones {cs : Array Value} {i : Nat} {v : Value} (h : cs.all (·.oneCell') = true) (hv : v.oneCell' = true) : (cs.setIfInBounds i v).all (·.oneCell') = true := by
  rw [Array.all_eq_true'] at h ⊢
  intro x hx
  rcases Array.mem_or_eq_of_mem_setIfInBounds hx with h1 | h1
  · exact h x h1
  · rw [h1]; exact hv
set_option maxRecDepth 100000 in
set_option maxHeartbeats 8000000 in
theorem build_any (w : World) (R O c6 : Nat) (x0 x1 x2 x3 : Value) (hR : Row w R 90 #[x0, x1, x2, x3, .slice (some ⟨O, 0, none⟩) 6 c6]) (hO : ∀ (j : Nat) x, pairsL[j]? = some x → w.cell? ⟨O, j, none⟩ = some (.string ⟨x.toArray⟩)) :
    Calls Try.prog 40 #[.pointer (some ⟨R, 0, none⟩)] w fun e w' => ∃ G, e = .returned (.iface 117 (.pointer (some ⟨G, 0, none⟩))) ∧ RepAt w.heap.size w' G ∧ Below w.heap.size w w' := by
  have c4 := hR.cell (i := 4) (v := .slice (some ⟨O, 0, none⟩) 6 c6) rfl
  have o0 := hO 0 [96] rfl
  have o1 := hO 1 [96, 96] rfl
  have o2 := hO 2 [126] rfl
  have o3 := hO 3 [126, 126] rfl
  have o4 := hO 4 [91] rfl
  have o5 := hO 5 [91, 91] rfl
  have hlt := hR.lt
  clear hR hO
  go_enter Try.func40, Try.ntmps40
  go_wp2_with fail
  go_loopw [4, 5] (fun av iv wr => wr = w ∧ ((iv = .int .i64 0 ∧ av = .bool true) ∨ (∃ n : Nat, (n = 2 ∨ n = 4 ∨ n = 6) ∧ iv = .int .i64 (n : Nat) ∧ av = .bool false))) (fun _ iv _ => 7 - (intOf iv).toNat)
  case atStart => exact ⟨rfl, .inl ⟨rfl, rfl⟩⟩
  case round =>
    obtain ⟨rfl, h⟩ := hrel
    rcases h with ⟨rfl, rfl⟩ | ⟨n, hn, rfl, rfl⟩
    · go_wp2_with fail
      go_roundw
      case rel => exact ⟨trivial, .inr ⟨2, .inl rfl, rfl, rfl⟩⟩
      case measure => decide
    · rcases hn with rfl | rfl | rfl
      · go_wp2_with fail
        go_roundw
        case rel => exact ⟨trivial, .inr ⟨4, .inr (.inl rfl), rfl, rfl⟩⟩
        case measure => decide
      · go_wp2_with fail
        go_roundw
        case rel => exact ⟨trivial, .inr ⟨6, .inr (.inr rfl), rfl, rfl⟩⟩
        case measure => decide
      · obtain ⟨i0, hi, hz0, hz1, hz2⟩ := info_parts (show (Try.prog.info? 9).map (fun i => (i.zero, i.size, i.bytes)) = some (some (.string ⟨#[]⟩), 1, 16) by kernel_rfl)
        have hz123 : (Try.zeroCells116).size = 257 := by kernel_rfl
        have hi123 : (Try.prog.info? 116).map (·.size) = some 257 := by kernel_rfl
        have hone : (Try.zeroCells116).all (·.oneCell') = true := by kernel_rfl
        go_wp2_with (first | (refine wpList_store_row rfl 116 (.tmp 11) (.tmp 95) rfl w1.heap.size ((Try.zeroCells116).setIfInBounds 256 (.slice (some ⟨wr.heap.size, 0, none⟩) 0 3)) rfl rfl 116 Try.zeroCells116 (Row.new _ _ _) (by rw [hi123, Array.size_setIfInBounds, hz123]) (by rw [Array.size_setIfInBounds]) (set_ones hone rfl) ?_) | refine wpList_make_own _ rfl (.const (.int .i64 0)) (.tmp 93) 74 rfl wr.heap.size 9 i0 (.string ⟨#[]⟩) 1 Try.underlying74 hi hz0 hz1 .i64 .i64 3 3 rfl rfl rfl (by rw [hz2]; decide) (by decide) (Nat.le_refl _) ?_; intro w1 hown hgrow)
        -- @LOOP
        obtain ⟨wb, rfl⟩ : ∃ wb, wb = wr := ⟨_, rfl⟩
        obtain ⟨G, hG⟩ : ∃ G, w1.heap.size = G := ⟨_, rfl⟩
        obtain ⟨cs0, hcs0⟩ : ∃ cs0, (Try.zeroCells116).setIfInBounds 256 (.slice (some ⟨wb.heap.size, 0, none⟩) 0 3) = cs0 := ⟨_, rfl⟩
        have hzz : Try.zeroCells116 = Array.replicate 257 (.slice none 0 0) := by kernel_rfl
        obtain ⟨W0, hW0⟩ : ∃ W0, (w1.alloc (.cells Try.zeroCells116 116)).setRow w1.heap.size cs0 = W0 := ⟨_, rfl⟩
        have hrow0 : Row W0 w1.heap.size 116 cs0 := by rw [← hW0]; exact setRow_heap _ _ _ _ _ _ (Row.new _ _ _)
        have hb0 : Below w1.heap.size w1 W0 := by
          rw [← hW0]
          exact (new_ (Below.refl _ _) _).trans ⟨rfl, rfl, rfl, by simp, fun k hk => setRow_other _ _ _ _ (by omega)⟩
        have hb1 : Below wb.heap.size wb w1 := (Below.refl _ wb).grown hgrow (Nat.le_refl _) (fun k e => by cases e)
        have hI : RepI wb W0 w1.heap.size cs0 (.slice (some ⟨wb.heap.size, 0, none⟩) 0 3) [] := by
          refine ⟨hrow0, by rw [← hcs0, Array.size_setIfInBounds, hz123], ?_, own_below hown hb0, fun k hk _ => ?_, fun b hb => (by cases hb), hb1.size, then_ hb1 hb0⟩
          · rw [← hcs0, Array.getElem?_setIfInBounds, if_pos rfl, if_pos (by rw [hz123]; decide)]
          · rw [← hcs0, Array.getElem?_setIfInBounds, if_neg (by omega), hzz, Array.getElem?_replicate, if_pos (by omega)]
        rw [hcs0, hW0]
        rw [hG] at hI ⊢
        have HI := Lib.hid hI
        have HWB := Lib.hid hb1
        have hal : Try.prog.arrayLen 114 = 256 := by kernel_rfl
        have heql : ∀ (W : World) (a : Option Addr) (n c : Nat), (binOp .eql 46 (.slice a n c) (.slice none 0 0)).run Try.prog W = .ok (.bool a.isNone) W := fun W a n c => Go.run_eql_slice_nil W _ _ a n c Try.underlying46
        clear hG hcs0 hzz hW0 hrow0 hb0 hb1 hI hown hgrow hz123 hi123 hone
        go_loopw [12] (fun iv wr' => ∃ n : Nat, n ≤ 3 ∧ iv = .int .i64 (4 - 2 * (n : Int)) ∧ ∃ cs tv, RepI wb wr' G cs tv (threeL.take n)) (fun iv _ => (intOf iv + 2).toNat)
        case atStart => exact ⟨0, by decide, rfl, _, _, HI.out⟩
        case round =>
          obtain ⟨wo, rfl⟩ : ∃ wo, wo = wr := ⟨_, rfl⟩
          obtain ⟨n, hn, rfl, cs, tv, h⟩ := hrel
          have H := Lib.hid h
          have hltG := h.row.lt
          have c256 := h.row.cell h.last
          rcases (show n = 0 ∨ n = 1 ∨ n = 2 ∨ n = 3 by omega) with rfl | rfl | rfl | rfl
          · obtain ⟨TA, cT, rfl, hcT⟩ := own_form h.own
            clear h hn HI
            have o1x := cellM o4 H.out.below
            have o2x := cellM o5 H.out.below
            have hix : ((ByteArray.mk #[91])[0]'(by decide : 0 < 1)).toNat = 91 := rfl
            have z0 := H.out.row.cell (H.out.zero 91 (by decide) (by decide))
            have hcs : (convert 46 9 (.slice (some ⟨wo.heap.size, 0, none⟩) 1 1)).run Try.prog (wo.alloc (.cells #[.int .u8 91] 5)) = .ok (.string ⟨#[91]⟩) (wo.alloc (.cells #[.int .u8 91] 5)) :=
              run_str_of_bytes _ _ _ 5 _ _ _ [91] Try.underlying46 Try.underlying5 Try.underlying9 rfl fun j y hy => by
                cases j with
                | zero => obtain rfl : (91 : UInt8) = y := by simpa using hy
                          exact cells_of' wo _ _ [u8 91] rfl rfl 0 _ rfl
                | succ j => simp at hy
            go_upto_region 34 with (at_builtin; refine wpList_append_own_at _ rfl (.tmp 119) (.tmp 123) 74 rfl wb.heap.size 9 i0 (.string ⟨#[]⟩) 1 16 Try.underlying74 hi hz0 hz1 hz2 rfl (by decide) (.slice TA 0 cT) 0 ((threeL.take 0).map fun x => .string ⟨#[x]⟩) rfl (own_below H.out.own (new_ (new_ (Below.refl _ _) _) _)) ⟨wo.heap.size + 1, 0, none⟩ 1 1 [.string ⟨#[91]⟩] rfl rfl (cells_of' _ _ _ _ rfl (by simp)) (by simp [Value.oneCell']) (by decide) (by decide) (by have := H.out.below.size; simp; omega) ?_; intro v' w3 hown' hgrow' _ hat; obtain ⟨bk, cap, rfl⟩ := own_some (n := 1) hown' (by decide); have HO := Lib.hid hown'; have HG := Lib.hid hgrow'; have hr3 := (H.out.row.below (new_ (new_ (Below.refl _ _) _) _) hltG).grown hgrow' (fun e => own_far H.out.own H.out.row (by decide) e.symm); have f3 := hr3.free 256; have f30 := hr3.free 91; have c3 := hr3.cell (i := 256) (v := .slice TA 0 cT) H.out.last; have c30 := hr3.cell (H.out.zero 91 (by decide) (by decide)); have hlt3 := hr3.lt; have HR3 := Lib.hid hr3; clear hr3)
            have HS := Lib.hid (H.out.step (x := 91) (by decide) (new_ (new_ (Below.refl _ _) _) _) HG.out HO.out ⟨#[91, 91]⟩ rfl)
            obtain ⟨W4, hW4⟩ : ∃ W4, w3.setCell ⟨G, 256, none⟩ (.slice (some ⟨bk, 0, none⟩) 1 cap) = W4 := ⟨_, rfl⟩
            rw [hW4] at HS ⊢
            have c4 : W4.cell? ⟨G, 91, none⟩ = some (.slice none 0 0) := by
              rw [← hW4, World.cell?_setCell_other _ _ _ _ (by simp)]
              exact c30
            have f4 : W4.frozen? ⟨G, 91, none⟩ = false := by
              rw [← hW4]
              exact (HR3.out.set 256 _).free _
            have hlt4 : G < W4.heap.size := by rw [← hW4]; simpa [World.setCell] using hlt3
            have hcb : (convert 9 46 (.string ⟨#[91, 91]⟩)).run Try.prog W4 = .ok (.slice (some ⟨W4.heap.size, 0, none⟩) 2 (grownCap W4 2 0 5)) (Lib.bytesWorld W4 5 ⟨#[91, 91]⟩) := Lib.run_convert_string_bytes W4 _ _ 5 ⟨#[91, 91]⟩ Try.underlying9 Try.underlying46 Try.underlying5
            obtain ⟨W5, hW5⟩ : ∃ W5, Lib.bytesWorld W4 5 ⟨#[91, 91]⟩ = W5 := ⟨_, rfl⟩
            have hb5 : Below W4.heap.size W4 W5 := hW5 ▸ below_bytes W4 _ _
            have c5 := cellM c4 hb5
            have f5 : W5.frozen? ⟨G, 91, none⟩ = false := (hb5.frozen hlt4).trans f4
            rw [hW5] at hcb HS
            clear hW4 hW5 hb5
            go_wp2_with fail
            go_roundw
            case rel => exact ⟨1, by decide, rfl, _, _, HS.out⟩
            case measure => decide
          · obtain ⟨TA, cT, rfl, hcT⟩ := own_form h.own
            clear h hn HI
            have o1x := cellM o2 H.out.below
            have o2x := cellM o3 H.out.below
            have hix : ((ByteArray.mk #[126])[0]'(by decide : 0 < 1)).toNat = 126 := rfl
            have z0 := H.out.row.cell (H.out.zero 126 (by decide) (by decide))
            have hcs : (convert 46 9 (.slice (some ⟨wo.heap.size, 0, none⟩) 1 1)).run Try.prog (wo.alloc (.cells #[.int .u8 126] 5)) = .ok (.string ⟨#[126]⟩) (wo.alloc (.cells #[.int .u8 126] 5)) :=
              run_str_of_bytes _ _ _ 5 _ _ _ [126] Try.underlying46 Try.underlying5 Try.underlying9 rfl fun j y hy => by
                cases j with
                | zero => obtain rfl : (126 : UInt8) = y := by simpa using hy
                          exact cells_of' wo _ _ [u8 126] rfl rfl 0 _ rfl
                | succ j => simp at hy
            go_upto_region 34 with (at_builtin; refine wpList_append_own_at _ rfl (.tmp 119) (.tmp 123) 74 rfl wb.heap.size 9 i0 (.string ⟨#[]⟩) 1 16 Try.underlying74 hi hz0 hz1 hz2 rfl (by decide) (.slice TA 1 cT) 1 ((threeL.take 1).map fun x => .string ⟨#[x]⟩) rfl (own_below H.out.own (new_ (new_ (Below.refl _ _) _) _)) ⟨wo.heap.size + 1, 0, none⟩ 1 1 [.string ⟨#[126]⟩] rfl rfl (cells_of' _ _ _ _ rfl (by simp)) (by simp [Value.oneCell']) (by decide) (by decide) (by have := H.out.below.size; simp; omega) ?_; intro v' w3 hown' hgrow' _ hat; obtain ⟨bk, cap, rfl⟩ := own_some (n := 2) hown' (by decide); have HO := Lib.hid hown'; have HG := Lib.hid hgrow'; have hr3 := (H.out.row.below (new_ (new_ (Below.refl _ _) _) _) hltG).grown hgrow' (fun e => own_far H.out.own H.out.row (by decide) e.symm); have f3 := hr3.free 256; have f30 := hr3.free 126; have c3 := hr3.cell (i := 256) (v := .slice TA 1 cT) H.out.last; have c30 := hr3.cell (H.out.zero 126 (by decide) (by decide)); have hlt3 := hr3.lt; have HR3 := Lib.hid hr3; clear hr3)
            have HS := Lib.hid (H.out.step (x := 126) (by decide) (new_ (new_ (Below.refl _ _) _) _) HG.out HO.out ⟨#[126, 126]⟩ rfl)
            obtain ⟨W4, hW4⟩ : ∃ W4, w3.setCell ⟨G, 256, none⟩ (.slice (some ⟨bk, 0, none⟩) 2 cap) = W4 := ⟨_, rfl⟩
            rw [hW4] at HS ⊢
            have c4 : W4.cell? ⟨G, 126, none⟩ = some (.slice none 0 0) := by
              rw [← hW4, World.cell?_setCell_other _ _ _ _ (by simp)]
              exact c30
            have f4 : W4.frozen? ⟨G, 126, none⟩ = false := by
              rw [← hW4]
              exact (HR3.out.set 256 _).free _
            have hlt4 : G < W4.heap.size := by rw [← hW4]; simpa [World.setCell] using hlt3
            have hcb : (convert 9 46 (.string ⟨#[126, 126]⟩)).run Try.prog W4 = .ok (.slice (some ⟨W4.heap.size, 0, none⟩) 2 (grownCap W4 2 0 5)) (Lib.bytesWorld W4 5 ⟨#[126, 126]⟩) := Lib.run_convert_string_bytes W4 _ _ 5 ⟨#[126, 126]⟩ Try.underlying9 Try.underlying46 Try.underlying5
            obtain ⟨W5, hW5⟩ : ∃ W5, Lib.bytesWorld W4 5 ⟨#[126, 126]⟩ = W5 := ⟨_, rfl⟩
            have hb5 : Below W4.heap.size W4 W5 := hW5 ▸ below_bytes W4 _ _
            have c5 := cellM c4 hb5
            have f5 : W5.frozen? ⟨G, 126, none⟩ = false := (hb5.frozen hlt4).trans f4
            rw [hW5] at hcb HS
            clear hW4 hW5 hb5
            go_wp2_with fail
            go_roundw
            case rel => exact ⟨2, by decide, rfl, _, _, HS.out⟩
            case measure => decide
          · obtain ⟨TA, cT, rfl, hcT⟩ := own_form h.own
            clear h hn HI
            have o1x := cellM o0 H.out.below
            have o2x := cellM o1 H.out.below
            have hix : ((ByteArray.mk #[96])[0]'(by decide : 0 < 1)).toNat = 96 := rfl
            have z0 := H.out.row.cell (H.out.zero 96 (by decide) (by decide))
            have hcs : (convert 46 9 (.slice (some ⟨wo.heap.size, 0, none⟩) 1 1)).run Try.prog (wo.alloc (.cells #[.int .u8 96] 5)) = .ok (.string ⟨#[96]⟩) (wo.alloc (.cells #[.int .u8 96] 5)) :=
              run_str_of_bytes _ _ _ 5 _ _ _ [96] Try.underlying46 Try.underlying5 Try.underlying9 rfl fun j y hy => by
                cases j with
                | zero => obtain rfl : (96 : UInt8) = y := by simpa using hy
                          exact cells_of' wo _ _ [u8 96] rfl rfl 0 _ rfl
                | succ j => simp at hy
            go_upto_region 34 with (at_builtin; refine wpList_append_own_at _ rfl (.tmp 119) (.tmp 123) 74 rfl wb.heap.size 9 i0 (.string ⟨#[]⟩) 1 16 Try.underlying74 hi hz0 hz1 hz2 rfl (by decide) (.slice TA 2 cT) 2 ((threeL.take 2).map fun x => .string ⟨#[x]⟩) rfl (own_below H.out.own (new_ (new_ (Below.refl _ _) _) _)) ⟨wo.heap.size + 1, 0, none⟩ 1 1 [.string ⟨#[96]⟩] rfl rfl (cells_of' _ _ _ _ rfl (by simp)) (by simp [Value.oneCell']) (by decide) (by decide) (by have := H.out.below.size; simp; omega) ?_; intro v' w3 hown' hgrow' _ hat; obtain ⟨bk, cap, rfl⟩ := own_some (n := 3) hown' (by decide); have HO := Lib.hid hown'; have HG := Lib.hid hgrow'; have hr3 := (H.out.row.below (new_ (new_ (Below.refl _ _) _) _) hltG).grown hgrow' (fun e => own_far H.out.own H.out.row (by decide) e.symm); have f3 := hr3.free 256; have f30 := hr3.free 96; have c3 := hr3.cell (i := 256) (v := .slice TA 2 cT) H.out.last; have c30 := hr3.cell (H.out.zero 96 (by decide) (by decide)); have hlt3 := hr3.lt; have HR3 := Lib.hid hr3; clear hr3)
            have HS := Lib.hid (H.out.step (x := 96) (by decide) (new_ (new_ (Below.refl _ _) _) _) HG.out HO.out ⟨#[96, 96]⟩ rfl)
            obtain ⟨W4, hW4⟩ : ∃ W4, w3.setCell ⟨G, 256, none⟩ (.slice (some ⟨bk, 0, none⟩) 3 cap) = W4 := ⟨_, rfl⟩
            rw [hW4] at HS ⊢
            have c4 : W4.cell? ⟨G, 96, none⟩ = some (.slice none 0 0) := by
              rw [← hW4, World.cell?_setCell_other _ _ _ _ (by simp)]
              exact c30
            have f4 : W4.frozen? ⟨G, 96, none⟩ = false := by
              rw [← hW4]
              exact (HR3.out.set 256 _).free _
            have hlt4 : G < W4.heap.size := by rw [← hW4]; simpa [World.setCell] using hlt3
            have hcb : (convert 9 46 (.string ⟨#[96, 96]⟩)).run Try.prog W4 = .ok (.slice (some ⟨W4.heap.size, 0, none⟩) 2 (grownCap W4 2 0 5)) (Lib.bytesWorld W4 5 ⟨#[96, 96]⟩) := Lib.run_convert_string_bytes W4 _ _ 5 ⟨#[96, 96]⟩ Try.underlying9 Try.underlying46 Try.underlying5
            obtain ⟨W5, hW5⟩ : ∃ W5, Lib.bytesWorld W4 5 ⟨#[96, 96]⟩ = W5 := ⟨_, rfl⟩
            have hb5 : Below W4.heap.size W4 W5 := hW5 ▸ below_bytes W4 _ _
            have c5 := cellM c4 hb5
            have f5 : W5.frozen? ⟨G, 96, none⟩ = false := (hb5.frozen hlt4).trans f4
            rw [hW5] at hcb HS
            clear hW4 hW5 hb5
            go_wp2_with fail
            go_roundw
            case rel => exact ⟨3, by decide, rfl, _, _, HS.out⟩
            case measure => decide
          · clear h hn HI
            go_wp2_with fail
            go_ret
            exact ⟨G, rfl, H.out.done, H.out.below⟩
end Go.Proofs.Ythkeggmloajapaa
