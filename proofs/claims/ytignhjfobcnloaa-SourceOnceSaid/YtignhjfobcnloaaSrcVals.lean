/- Words and comments of several files in memory; Locate and Texts. -/
import Derived.Test.YtignhjfobcnloaaSrcPlain2
import Derived.Test.YtignhjfobcnloaaStripA
import Derived.Test.YtignhjfobcnloaaSubApply
import Derived.RegionTactic
import Derived.BigRegion
import Derived.Deep.QuietTactic
import Derived.BigQuiet
namespace Go.Proofs.Ytignhjfobcnloaa
open Go.RowKit
def wordCells (x : WordD) : List Value := [.string ⟨x.1.toArray⟩, .int .i64 x.2.1, .int .i64 x.2.2]
def comfCells (x : ComF) : List Value := [.string ⟨x.1.toArray⟩, .int .i64 x.2.1, .int .i64 x.2.2.1, .int .i64 x.2.2.2]
/-- the slice value v reads as the words l; as the comments l -/
def WordsAt (w : World) (v : Value) (l : List WordD) : Prop := Rds w 3 v l.length (l.flatMap wordCells)
def ComfAt (w : World) (v : Value) (l : List ComF) : Prop := Rds w 4 v l.length (l.flatMap comfCells)
theorem WordsAt.open_ {w : World} {v : Value} {l : List WordD} (h : WordsAt w v l) : ∃ A c, v = .slice A l.length c ∧ l.length ≤ c ∧ l.length ≤ maxLen ∧
    (∀ k x, l[k]? = some x → ∃ b o, A = some ⟨b, o, none⟩ ∧ w.cell? ⟨b, o + k * 3, none⟩ = some (.string ⟨x.1.toArray⟩) ∧ w.cell? ⟨b, o + k * 3 + 1, none⟩ = some (.int .i64 x.2.1) ∧ w.cell? ⟨b, o + k * 3 + 2, none⟩ = some (.int .i64 x.2.2)) := by
  obtain ⟨A, c, hv, hc, hm, hl, hr⟩ := h
  refine ⟨A, c, hv, hc, hm, fun k x hx => ?_⟩
  have hk : k < l.length := (List.getElem?_eq_some_iff.1 hx).1
  obtain ⟨b, o, ha, hz⟩ := hr (by omega)
  have hf := fun i hi => flatN 3 wordCells (fun _ => rfl) l k i x hx hi
  exact ⟨b, o, ha, hz (k * 3) _ (hf 0 (by omega)), hz (k * 3 + 1) _ (hf 1 (by omega)), hz (k * 3 + 2) _ (hf 2 (by omega))⟩
theorem WordsAt.below {w w' : World} {v : Value} {l : List WordD} (h : WordsAt w v l) (hb : Below w.heap.size w w') : WordsAt w' v l := Rds.below h hb
theorem ComfAt.open_ {w : World} {v : Value} {l : List ComF} (h : ComfAt w v l) : ∃ A c, v = .slice A l.length c ∧ l.length ≤ c ∧ l.length ≤ maxLen ∧
    (∀ k x, l[k]? = some x → ∃ b o, A = some ⟨b, o, none⟩ ∧ w.cell? ⟨b, o + k * 4, none⟩ = some (.string ⟨x.1.toArray⟩) ∧ w.cell? ⟨b, o + k * 4 + 1, none⟩ = some (.int .i64 x.2.1) ∧ w.cell? ⟨b, o + k * 4 + 2, none⟩ = some (.int .i64 x.2.2.1) ∧ w.cell? ⟨b, o + k * 4 + 3, none⟩ = some (.int .i64 x.2.2.2)) := by
  obtain ⟨A, c, hv, hc, hm, hl, hr⟩ := h
  refine ⟨A, c, hv, hc, hm, fun k x hx => ?_⟩
  have hk : k < l.length := (List.getElem?_eq_some_iff.1 hx).1
  obtain ⟨b, o, ha, hz⟩ := hr (by omega)
  have hf := fun i hi => flatN 4 comfCells (fun _ => rfl) l k i x hx hi
  exact ⟨b, o, ha, hz (k * 4) _ (hf 0 (by omega)), hz (k * 4 + 1) _ (hf 1 (by omega)), hz (k * 4 + 2) _ (hf 2 (by omega)), hz (k * 4 + 3) _ (hf 3 (by omega))⟩
theorem ComfAt.below {w w' : World} {v : Value} {l : List ComF} (h : ComfAt w v l) (hb : Below w.heap.size w w') : ComfAt w' v l := Rds.below h hb
theorem infoWord : (Try.prog.info? 95).map (fun i => (i.zero, i.size, i.bytes)) = some (some (.agg #[.string ⟨#[]⟩, .int .i64 0, .int .i64 0]), 3, 32) := by kernel_rfl
theorem infoRWord : (Try.prog.info? 132).map (fun i => (i.zero, i.size, i.bytes)) = some (some (.agg #[.string ⟨#[]⟩, .int .i64 0, .int .i64 0]), 3, 32) := by kernel_rfl
theorem locS_neg {fs : List (List UInt8)} {ws : List WordD} {k : Int} (h : k < 0 ∨ (ws.length : Int) ≤ k) : locS fs ws k = (([], 0), 3) := by unfold locS; rw [if_pos h]
theorem locS_at {fs : List (List UInt8)} {ws : List WordD} {k : Nat} {x : WordD} (h : ws[k]? = some x) : locS fs ws k = if x.2.1 < 0 ∨ (fs.length : Int) ≤ x.2.1 then (([], 0), (3 : Int)) else match fs[x.2.1.toNat]? with | none => (([], 0), (3 : Int)) | some f => ((f, x.2.2), (0 : Int)) := by
  have hk := (List.getElem?_eq_some_iff.1 h).1
  unfold locS
  rw [if_neg (by omega), Int.toNat_natCast, h]
  rfl
theorem locS_miss {fs : List (List UInt8)} {ws : List WordD} {k : Nat} {x : WordD} (h : ws[k]? = some x) (hx : x.2.1 < 0 ∨ (fs.length : Int) ≤ x.2.1) : locS fs ws k = (([], 0), 3) := by rw [locS_at h, if_pos hx]
theorem locS_hit {fs : List (List UInt8)} {ws : List WordD} {k : Nat} {t : List UInt8} {j : Nat} {at0 : Int} {f : List UInt8} (h : ws[k]? = some (t, (j : Int), at0)) (hf : fs[j]? = some f) : locS fs ws k = ((f, at0), 0) := by
  have hj := (List.getElem?_eq_some_iff.1 hf).1
  rw [locS_at h, if_neg (by dsimp only; omega)]
  dsimp only
  rw [Int.toNat_natCast, hf]
/-- what Locate hands back -/
def locV (r : (List UInt8 × Int) × Int) : Value := .tuple #[.agg #[.string ⟨r.1.1.toArray⟩, .int .i64 r.1.2], .int .i64 r.2]
theorem locate_any (w : World) (fv wv cv : Value) (fs : List (List UInt8)) (ws : List WordD) (k : Int) (hf : Strs w fv fs) (hw : WordsAt w wv ws) (r : (List UInt8 × Int) × Int) (hr : locS fs ws k = r) :
    Calls Try.prog 26 #[.agg #[fv, wv, cv], .int .i64 k] w fun e w' => e = .returned (locV r) ∧ Below w.heap.size w w' := by
  obtain ⟨fA, fc, rfl, _, hfm, hfx⟩ := hf.open_
  obtain ⟨wA, wc, rfl, _, hwm, hwx⟩ := hw.open_
  unfold maxLen at hfm hwm
  have HR := Lib.hid hr
  clear hr hf hw
  by_cases hn : k < 0
  · have e1 : decide (k < 0) = true := decide_eq_true hn
    obtain rfl := HR.out.symm.trans (locS_neg (.inl hn))
    clear hn hfx hwx HR
    go_enter Try.func26, Try.ntmps26
    go_wp2
    refine bodyPost_ret (v := locV (([], 0), 3)) (by simp [results, Try.results26, go_sem, locV]) rfl ⟨rfl, ?_⟩
    exact new_ (new_ (Below.refl _ _) _) _
  · have e1 : decide (k < 0) = false := decide_eq_false hn
    obtain ⟨n, rfl⟩ : ∃ n : Nat, k = n := ⟨k.toNat, by omega⟩
    clear hn
    by_cases hl : n < ws.length
    · obtain ⟨⟨t, fi, at0⟩, hx⟩ : ∃ x, ws[n]? = some x := ⟨_, List.getElem?_eq_getElem hl⟩
      obtain ⟨b, o, rfl, g1, g2, g3⟩ := hwx n _ hx
      have HX := Lib.hid hx
      have e2 : decide (ws.length ≤ n) = false := decide_eq_false (by omega)
      have hlb := block_lt_of_cell g1
      dsimp only at hlb g1 g2 g3
      clear hwx hx
      by_cases hq : fi < 0
      · have e3 : decide (fi < 0) = true := decide_eq_true hq
        obtain rfl := HR.out.symm.trans (locS_miss HX.out (.inl hq))
        clear hq hfx HR
        go_enter Try.func26, Try.ntmps26
        go_wp2
        refine bodyPost_ret (v := locV (([], 0), 3)) (by simp [results, Try.results26, go_sem, locV]) rfl ⟨rfl, ?_⟩
        exact new_ (new_ (new_ (Below.refl _ _) _) _) _
      · have e3 : decide (fi < 0) = false := decide_eq_false hq
        obtain ⟨j, rfl⟩ : ∃ j : Nat, fi = j := ⟨fi.toNat, by omega⟩
        clear hq
        by_cases hj : j < fs.length
        · obtain ⟨f, hfj⟩ : ∃ f, fs[j]? = some f := ⟨_, List.getElem?_eq_getElem hj⟩
          obtain ⟨b2, o2, rfl, g4⟩ := hfx j _ hfj
          have hlb2 := block_lt_of_cell g4
          dsimp only at hlb2 g4
          have e4 : decide (fs.length ≤ j) = false := decide_eq_false (by omega)
          obtain rfl := HR.out.symm.trans (locS_hit HX.out hfj)
          have j0 : (0 : Int) ≤ (j : Int) := Int.natCast_nonneg _
          have j1 : (j : Int) < (fs.length : Int) := by omega
          have g5 := ((new_ (new_ (new_ (Below.refl w.heap.size w) (.cells #[.slice (some ⟨b2, o2, none⟩) fs.length fc, .slice (some ⟨b, o, none⟩) ws.length wc, cv] 54)) (.cells #[.string ⟨#[]⟩, .int .i64 0] 56)) (.cells #[.string ⟨t.toArray⟩, .int .i64 (j : Int), .int .i64 at0] 95)).cell (p := ⟨b2, o2 + j, none⟩) hlb2).trans g4
          clear hfx hfj HR
          go_enter Try.func26, Try.ntmps26
          go_wp2
          go_region
          all_goals
            go_wp2
            refine bodyPost_ret (v := locV ((f, at0), 0)) (by simp [results, Try.results26, go_sem, locV]) rfl ⟨rfl, ?_⟩
            first | exact (new_ (new_ (new_ (Below.refl _ _) _) _) _).drew | exact new_ (new_ (new_ (Below.refl _ _) _) _) _
        · have e4 : decide (fs.length ≤ j) = true := decide_eq_true (by omega)
          obtain rfl := HR.out.symm.trans (locS_miss HX.out (.inr (by dsimp only; omega)))
          clear hfx HR
          go_enter Try.func26, Try.ntmps26
          go_wp2
          refine bodyPost_ret (v := locV (([], 0), 3)) (by simp [results, Try.results26, go_sem, locV]) rfl ⟨rfl, ?_⟩
          exact new_ (new_ (new_ (Below.refl _ _) _) _) _
    · obtain rfl := HR.out.symm.trans (locS_neg (.inr (by omega)))
      have e2 : decide (ws.length ≤ n) = true := decide_eq_true (by omega)
      clear hfx hwx HR
      go_enter Try.func26, Try.ntmps26
      go_wp2
      refine bodyPost_ret (v := locV (([], 0), 3)) (by simp [results, Try.results26, go_sem, locV]) rfl ⟨rfl, ?_⟩
      exact new_ (new_ (Below.refl _ _) _) _
end Go.Proofs.Ytignhjfobcnloaa
