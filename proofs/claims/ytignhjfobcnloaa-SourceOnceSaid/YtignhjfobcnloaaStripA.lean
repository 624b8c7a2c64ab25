/- A text with a comment keyword: the reference's question. slices.Equal of two lists of tokens, of comments, that read as the same list. -/
import Derived.Test.YtignhjfobcnloaaStripWalk
import Derived.Test.YtignhjfobcnloaaScanRef
import Derived.RegionTactic
import Derived.Laws.StructEq
section
namespace Go.Proofs.Ytignhjfobcnloaa
open Go.RowKit
theorem hasC_iff (s : List UInt8) : hasC s = true ↔ ∃ j : Nat, s[j]? = some 36 ∧ (s[j + 1]? = some 40 ∨ s[j + 1]? = some 41) := by
  unfold hasC
  rw [Bool.or_eq_true, hasB_iff, hasB_iff]
  constructor
  · rintro (⟨j, h1, h2⟩ | ⟨j, h1, h2⟩)
    · exact ⟨j, h1, .inl h2⟩
    · exact ⟨j, h1, .inr h2⟩
  · rintro ⟨j, h1, h2 | h2⟩
    · exact .inl ⟨j, h1, h2⟩
    · exact .inr ⟨j, h1, h2⟩
theorem byte_eq {s : List UInt8} {k n : Nat} (h : k < s.length) (b : UInt8) (hn : n = s[k].toNat) (hb : n = b.toNat) : s[k]? = some b := by
  rw [List.getElem?_eq_getElem h]
  congr 1
  exact UInt8.toNat_inj.1 (hn.symm.trans hb)
theorem byte_ne {s : List UInt8} {k n : Nat} (h : k < s.length) (b : UInt8) (hn : n = s[k].toNat) (hb : n ≠ b.toNat) : s[k]? ≠ some b := by
  rw [List.getElem?_eq_getElem h]
  intro e
  injection e with e
  exact hb (hn.trans (by rw [e]))
set_option maxRecDepth 100000 in
set_option maxHeartbeats 4000000 in
theorem ref_has (w : World) (s : List UInt8) (hs : s.length ≤ 40000) :
    Calls Try.prog 124 #[.string ⟨s.toArray⟩] w fun e w' => e = .returned (.bool (hasC s)) ∧ w = w' := by
  go_enter Try.func124, Try.ntmps124
  go_wp2
  go_loop [3] (fun i => ∃ k : Nat, k ≤ s.length ∧ i = .int .i64 k ∧ ∀ j : Nat, j < k → ¬ (s[j]? = some 36 ∧ (s[j + 1]? = some 40 ∨ s[j + 1]? = some 41))) (fun i => s.length - (intOf i).toNat)
  case atStart => exact ⟨0, Nat.zero_le _, rfl, fun j hj => by omega⟩
  case round =>
    obtain ⟨k, hk, rfl, hn⟩ := hrel
    have HN := Lib.hid hn
    clear hn
    by_cases hlt : k + 1 < s.length
    · have hkl : k < s.length := by omega
      obtain ⟨c, hce, hcl⟩ : ∃ c : Nat, (ByteArray.mk s.toArray)[k].toNat = c ∧ c = s[k].toNat := ⟨_, rfl, rfl⟩
      obtain ⟨d, hde, hdl⟩ : ∃ c : Nat, (ByteArray.mk s.toArray)[k + 1].toNat = c ∧ c = s[k + 1].toNat := ⟨_, rfl, rfl⟩
      have HC := Lib.hid hcl
      have HD := Lib.hid hdl
      have hc256 : c < 256 := by rw [hcl]; exact s[k].toNat_lt
      have hd256 : d < 256 := by rw [hdl]; exact s[k + 1].toNat_lt
      have hix : ((k : Int) + 1).toNat = k + 1 := by omega
      clear hcl hdl
      by_cases h1 : c = 36
      · have e1 : ((c : Int) == 36) = true := by simp [h1]
        have f1 := byte_eq hkl 36 HC.out h1
        by_cases h2 : d = 40
        · have e2 : ((d : Int) == 40) = true := by simp [h2]
          have HH := Lib.hid ((hasC_iff s).2 ⟨k, f1, .inl (byte_eq hlt 40 HD.out h2)⟩)
          clear h1 h2 f1
          go_wp2
          go_ret
          exact ⟨ret_bool HH.out.symm, rfl⟩
        · have e2 : ((d : Int) == 40) = false := by simp; omega
          by_cases h3 : d = 41
          · have e3 : ((d : Int) == 41) = true := by simp [h3]
            have HH := Lib.hid ((hasC_iff s).2 ⟨k, f1, .inr (byte_eq hlt 41 HD.out h3)⟩)
            clear h1 h2 h3 f1
            go_wp2
            go_ret
            exact ⟨ret_bool HH.out.symm, rfl⟩
          · have e3 : ((d : Int) == 41) = false := by simp; omega
            have HX : Hid (¬ (s[k]? = some 36 ∧ (s[k + 1]? = some 40 ∨ s[k + 1]? = some 41))) := Lib.hid (fun h => h.2.elim (byte_ne hlt 40 HD.out h2) (byte_ne hlt 41 HD.out h3))
            clear h1 h2 h3 f1
            go_wp2
            go_round
            case rel => exact ⟨k + 1, by omega, by go_num, fun j hj => by
              by_cases e : j = k
              · subst e; exact HX.out
              · exact HN.out j (by omega)⟩
            case measure => simp [intOf]; omega
      · have e1 : ((c : Int) == 36) = false := by simp; omega
        have HX : Hid (¬ (s[k]? = some 36 ∧ (s[k + 1]? = some 40 ∨ s[k + 1]? = some 41))) := Lib.hid (fun h => byte_ne hkl 36 HC.out h1 h.1)
        clear h1
        go_wp2
        go_round
        case rel => exact ⟨k + 1, by omega, by go_num, fun j hj => by
          by_cases e : j = k
          · subst e; exact HX.out
          · exact HN.out j (by omega)⟩
        case measure => simp [intOf]; omega
    · have HH : Hid (hasC s = false) := Lib.hid (by
        rw [Bool.eq_false_iff]
        intro h
        obtain ⟨j, h1, h2⟩ := (hasC_iff s).1 h
        have hj : j + 1 < s.length := by rcases h2 with h2 | h2 <;> exact (List.getElem?_eq_some_iff.1 h2).1
        exact HN.out j (by omega) ⟨h1, h2⟩)
      go_wp2
      go_ret
      exact ⟨ret_bool HH.out.symm, rfl⟩
theorem infoRCom : (Try.prog.info? 148).map (fun i => (i.zero, i.size, i.bytes)) = some (some (.agg #[.string ⟨#[]⟩, .int .i64 0, .int .i64 0, .int .i64 0]), 4, 40) := by kernel_rfl
end Go.Proofs.Ytignhjfobcnloaa
end
section
namespace Go.Proofs.Ytignhjfobcnloaa
open Go.RowKit
theorem ComsAt.open_ {w : World} {v : Value} {l : List ComD} (h : ComsAt w v l) : ∃ A c, v = .slice A l.length c ∧ l.length ≤ c ∧ l.length ≤ maxLen ∧
    (∀ k x, l[k]? = some x → ∃ b o, A = some ⟨b, o, none⟩ ∧ w.cell? ⟨b, o + k * 4, none⟩ = some (.string ⟨x.1.toArray⟩) ∧ w.cell? ⟨b, o + k * 4 + 1, none⟩ = some (.int .i64 0) ∧ w.cell? ⟨b, o + k * 4 + 2, none⟩ = some (.int .i64 (x.2.1 : Nat)) ∧ w.cell? ⟨b, o + k * 4 + 3, none⟩ = some (.int .i64 (x.2.2 : Nat))) := by
  obtain ⟨A, c, hv, hc, hm, hl, hr⟩ := h
  refine ⟨A, c, hv, hc, hm, fun k x hx => ?_⟩
  have hk : k < l.length := (List.getElem?_eq_some_iff.1 hx).1
  obtain ⟨b, o, ha, hz⟩ := hr (by omega)
  have hf := fun i hi => flatN 4 comCells (fun _ => rfl) l k i x hx hi
  exact ⟨b, o, ha, hz (k * 4) _ (hf 0 (by omega)), hz (k * 4 + 1) _ (hf 1 (by omega)), hz (k * 4 + 2) _ (hf 2 (by omega)), hz (k * 4 + 3) _ (hf 3 (by omega))⟩
theorem ComsAt.below {w w' : World} {v : Value} {l : List ComD} (h : ComsAt w v l) (hb : Below w.heap.size w w') : ComsAt w' v l := Rds.below h hb
theorem heldTok : Try.prog.stoodInHeld 86 = false := by kernel_rfl
theorem heldRCom : Try.prog.stoodInHeld 148 = false := by kernel_rfl
theorem equal_rcoms (w : World) (v1 v2 : Value) (l : List ComD) (h1 : ComsAt w v1 l) (h2 : ComsAt w v2 l) :
    Calls Try.prog 66 #[v1, v2] w fun e w' => e = .returned (.bool true) ∧ Below w.heap.size w w' := by
  obtain ⟨A1, c1, rfl, hc1, hm1, hx1⟩ := h1.open_
  obtain ⟨A2, c2, rfl, hc2, hm2, hx2⟩ := h2.open_
  unfold maxLen at hm1 hm2
  have hh := heldRCom
  go_enter Try.func66, Try.ntmps66
  go_wp2
  go_loopw [13] (fun i wr => ∃ k n : Nat, k ≤ l.length ∧ i = .int .i64 k ∧ wr = w.drewN n) (fun i _ => l.length - (intOf i).toNat)
  case atStart => exact ⟨0, 0, Nat.zero_le _, rfl, rfl⟩
  case round =>
    obtain ⟨k, n, hk, rfl, rfl⟩ := hrel
    by_cases hlt : k < l.length
    · obtain ⟨y, hy⟩ : ∃ y, l[k]? = some y := ⟨_, List.getElem?_eq_getElem hlt⟩
      obtain ⟨b1, o1, rfl, s1, s2, s3, s4⟩ := hx1 k y hy
      obtain ⟨b2, o2, rfl, r1, r2, r3, r4⟩ := hx2 k y hy
      clear hx1 hx2 hy
      go_wp2
      go_region
      go_wp2
      go_roundw
      case rel => exact ⟨k + 1, n + 1, by omega, by go_num, rfl⟩
      case measure => simp [intOf]; omega
    · go_wp2
      go_ret
      exact ⟨rfl, below_drewN (Below.refl _ _) n⟩
set_option maxRecDepth 100000 in
set_option maxHeartbeats 1000000 in
theorem comments_any (w : World) (v : Value) (l : List ComD) (h : ComsAt w v l) (hl8 : l.length ≤ 1000000) :
    Calls Try.prog 61 #[v] w fun e w' => ∃ v', e = .returned v' ∧ ComsAt w' v' l ∧ Below w.heap.size w w' := by
  have h0 := h
  obtain ⟨A1, c1, rfl, hc1, hm1, _⟩ := h.open_
  unfold maxLen at hm1
  obtain ⟨i1, ki, kj0, kj1, kj2⟩ := info_parts infoRCom
  go_enter Try.func61, Try.ntmps61
  go_wp2
  go_loopw [3, 8] (fun ov i wr => ∃ (k : Nat), k ≤ l.length ∧ i = .int .i64 k ∧ wr.ownsRow w.heap.size 148 4 ov (l.take k).length ((l.take k).flatMap comCells) ∧ Below w.heap.size w wr) (fun _ i _ => l.length - (intOf i).toNat)
  case atStart => exact ⟨0, Nat.zero_le _, rfl, World.ownsRow_nil _ _ _ _, Below.refl _ _⟩
  case round =>
    obtain ⟨k, hk, rfl, hown, hb⟩ := hrel
    have hwz := hb.size
    by_cases hlt : k < l.length
    · obtain ⟨y, hy⟩ : ∃ y, l[k]? = some y := ⟨_, List.getElem?_eq_getElem hlt⟩
      obtain ⟨A1', c1', hvv, _, _, hx1⟩ := (h0.below hb).open_
      obtain ⟨rfl, _, rfl⟩ := (by simpa using hvv : A1 = A1' ∧ True ∧ c1 = c1')
      obtain ⟨b1, o1, rfl, s1, s2, s3, s4⟩ := hx1 k y hy
      obtain ⟨L, hL⟩ : ∃ L, L = l.take k := ⟨_, rfl⟩
      have hLl : L.length = k := by rw [hL]; simp; omega
      rw [← hL, hLl] at hown
      have HLl := Lib.hid hLl
      have HT : Hid (l.take (k + 1) = L ++ [y]) := Lib.hid (by rw [hL]; exact take_snoc hy)
      clear hx1 hy hvv hL hLl
      go_wp2_with (at_builtin; (refine wpList_append_own _ rfl (.tmp 12) (.tmp 20) 63 rfl w.heap.size 148 i1 (.agg #[.string ⟨#[]⟩, .int .i64 0, .int .i64 0, .int .i64 0]) 4 40 Try.underlying63 ki kj0 kj1 kj2 rfl (by decide) _ k (L.flatMap comCells) rfl ((hown.alloc _).alloc _) ⟨wr.heap.size + 1, 0, none⟩ 1 1 (comCells y) rfl rfl (cells_at' _ _ _ _ rfl (by simp)) (by simp [comCells, Value.oneCell']) (by unfold maxLen; omega) (by omega) (by simp; omega) ?_; intro v' wz hown' hgrow _))
      go_roundw
      case rel => exact ⟨k + 1, by omega, by go_num, by rw [HT.out]; exact coms_snoc hown' rfl HLl.out.symm, ((hb.alloc hwz _).alloc (by simp; omega) _).grown hgrow (by simp; omega) (own_block hown)⟩
      case measure => simp [intOf]; omega
    · obtain rfl : k = l.length := by omega
      rw [List.take_length] at hown
      go_wp2
      go_ret
      exact ⟨_, rfl, Rds.of_own hown, hb⟩
end Go.Proofs.Ytignhjfobcnloaa
end
