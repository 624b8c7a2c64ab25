/- What Read returns, as one view. -/
import Derived.Test.YtignhjfobcnloaaTakeC
import Derived.Test.YtignhjfobcnloaaPlainB
namespace Go.Proofs.Ytignhjfobcnloaa
open Go.RowKit
/-- a unit's three slices read as the lists of x -/
structure UnitAt (w : World) (f wv cv : Value) (x : RdS) : Prop where
  fl : Strs w f x.files
  wd : WordsAt w wv x.words
  cm : ComfAt w cv x.coms
theorem UnitAt.below {w w' : World} {f wv cv : Value} {x : RdS} (h : UnitAt w f wv cv x) (hb : Below w.heap.size w w') : UnitAt w' f wv cv x := ⟨h.fl.below hb, h.wd.below hb, h.cm.below hb⟩
theorem UnitAt.form {w : World} {f wv cv : Value} {x : RdS} (h : UnitAt w f wv cv x) : (∃ A c, f = .slice A x.files.length c) ∧ (∃ A c, wv = .slice A x.words.length c) ∧ ∃ A c, cv = .slice A x.coms.length c := by
  obtain ⟨A1, c1, rfl, _⟩ := h.fl
  obtain ⟨A2, c2, rfl, _⟩ := h.wd
  obtain ⟨A3, c3, rfl, _⟩ := h.cm
  exact ⟨⟨_, _, rfl⟩, ⟨_, _, rfl⟩, _, _, rfl⟩
/-- what both return: the unit, the error's file, its place, its code -/
def outV : RdS ⊕ ErrD → RdS × List UInt8 × Int × Int
  | .inl y => (y, [], 0, 0)
  | .inr x => (⟨[], [], [], 0⟩, x.1, x.2.1, x.2.2)
def ReadView (w : World) (o : RdS × List UInt8 × Int × Int) (e : Ending) (w' : World) : Prop :=
  ∃ vf vw vc, e = .returned (.tuple #[.agg #[vf, vw, vc], .agg #[.string ⟨o.2.1.toArray⟩, .int .i64 o.2.2.1], .int .i64 o.2.2.2]) ∧ UnitAt w' vf vw vc o.1 ∧ Below w.heap.size w w'
theorem read_view (w : World) (mb : Option Nat) (fs : List UInt8 → Option (List UInt8)) (main : List UInt8) (hF : FilesAt w.heap.size w (.map mb) fs) (hn : main.length ≤ maxLen) :
    Calls Try.prog 32 #[.map mb, .string ⟨main.toArray⟩] w (ReadView w (outV (readS fs main))) := by
  refine (read_any w mb fs main hF hn).mono ?_
  intro e w' h
  cases hr : readS fs main with
  | inl y =>
    rw [hr] at h
    obtain ⟨vf, vw, vc, he, h1, h2, h3, hb⟩ := h
    exact ⟨vf, vw, vc, he, ⟨strs_of_own h1 rfl, Rds.of_own h2, Rds.of_own h3⟩, hb⟩
  | inr x =>
    rw [hr] at h
    exact ⟨_, _, _, h.1, ⟨Rds.nil_, Rds.nil_, Rds.nil_⟩, h.2⟩
theorem out_small {fs : List UInt8 → Option (List UInt8)} {main : List UInt8} {o : RdS × List UInt8 × Int × Int} (h : outV (readS fs main) = o) : o.1.files.length ≤ 40 ∧ o.1.words.length ≤ 8000 ∧ o.1.coms.length ≤ 320000 := by
  subst h
  cases hr : readS fs main with
  | inr x => simp [outV]
  | inl y =>
    have h1 := (readS_once hr).2.2.1
    show y.files.length ≤ 40 ∧ y.words.length ≤ 8000 ∧ y.coms.length ≤ 320000
    refine ⟨h1.fl, h1.wl, ?_⟩
    unfold readS at hr
    split at hr
    · cases hr
    · have h2 := (takeS_more fs 41 _ _ _ hr).2.1
      have h3 := h1.fl
      simp at h2
      omega
end Go.Proofs.Ytignhjfobcnloaa
