/- Read of any files, with its deferred call that recovers. -/
import Derived.Test.YtignhjfobcnloaaSrcTake0
import Derived.Defers
import Derived.Recover
import Derived.Deep.RegionHeld3
import Derived.Deep.DrawnRows
namespace Go.Proofs.Ytignhjfobcnloaa
open Go.RowKit
theorem assertFound (W : World) (v : Value) : (Instr.typeAssert (.iface 138 v) 20 138 true).run Try.prog W = .ok (.tuple #[v, .bool true]) W := by kernel_rfl
/-- behind the closure that recovers -/
def CaughtQ (R : World → Prop) : Exit → Act → World → Prop
  | .normal, act, w' | .ret, act, w' => act.defers = [] ∧ R w'
  | _, _, _ => False
def CaughtR (w : World) (a b c B : Nat) (er : ErrD) (w' : World) : Prop := Row w' a 54 #[.slice none 0 0, .slice none 0 0, .slice none 0 0] ∧ Row w' b 56 #[.string ⟨er.1.toArray⟩, .int .i64 er.2.1] ∧ Row w' c 46 #[.int .i64 er.2.2] ∧ Below B w w'

set_option maxRecDepth 100000 in
set_option maxHeartbeats 4000000 in
theorem caught (w : World) (a b c B : Nat) (er : ErrD) (u0 u1 u2 z0 z1 z2 : Value) (ha : Row w a 54 #[u0, u1, u2]) (hb : Row w b 56 #[z0, z1]) (hc : Row w c 46 #[z2]) (h1 : B ≤ a) (h2 : B ≤ b) (h3 : B ≤ c) (hab : a ≠ b) (hac : a ≠ c) (hbc : b ≠ c) :
    CallsD Try.prog 62 #[.pointer (some ⟨a, 0, none⟩), .pointer (some ⟨b, 0, none⟩), .pointer (some ⟨c, 0, none⟩)] (.panicking [{ v := .iface 138 (foundV er), recovered := false }]) w fun e u' w' =>
      e = .returned (.tuple #[]) ∧ u' = .panicking [{ v := .iface 138 (foundV er), recovered := true }] ∧ CaughtR w a b c B er w' := by
  refine callsD_of_wpS Try.func62 rfl fun c₀ cs hu => ?_
  simp only [Try.ntmps62, List.size_toArray, List.length_cons, List.length_nil, Nat.reduceAdd, Nat.reduceSub, Array.replicate_succ, Array.replicate_zero, List.push_toArray, List.append_toArray, List.nil_append, List.cons_append]
  apply wpS_seq
  apply wpS_region
  simp [wpOpsS, go_sem, recoverD, hu, Exit.thenS]
  refine wpS_of_wp (Code.wp_mono (Q := CaughtQ (CaughtR w a b c B er)) ?_ ?_)
  · intro e a' w' h
    cases e with
    | normal => exact ⟨h.1, _, rfl, _, results_none rfl _ _ _, rfl, rfl, h.2⟩
    | ret => exact ⟨h.1, _, rfl, _, results_none rfl _ _ _, rfl, rfl, h.2⟩
    | panic ch => exact h.elim
    | exit id => exact h.elim
    | goto l => exact h.elim
    | outgrown => exact h.elim
  have HA := Lib.hid ha
  have HB := Lib.hid hb
  have HC := Lib.hid hc
  have HU := Lib.hid hu
  have a0 := ha.cell (i := 0) (v := u0) rfl
  have a1 := ha.cell (i := 1) (v := u1) rfl
  have a2 := ha.cell (i := 2) (v := u2) rfl
  have b0 := hb.cell (i := 0) (v := z0) rfl
  have b1 := hb.cell (i := 1) (v := z1) rfl
  have c0 := hc.cell (i := 0) (v := z2) rfl
  have fa0 := ha.free 0
  have fa1 := ha.free 1
  have fa2 := ha.free 2
  have fb0 := hb.free 0
  have fb1 := hb.free 1
  have fc0 := hc.free 0
  have la := ha.lt
  have lb := hb.lt
  have lc := hc.lt
  clear ha hb hc hu
  have hta := assertFound
  simp only [foundV]
  go_wp2
  obtain ⟨W1, hW1⟩ : ∃ W1, W1 = w.alloc (.cells #[.string ⟨er.1.toArray⟩, .int .i64 er.2.1, .int .i64 er.2.2] 138) := ⟨_, rfl⟩
  have hb1 : Below w.heap.size w W1 := by rw [hW1]; exact new_ (Below.refl _ _) _
  have hg : Row W1 w.heap.size 138 #[.string ⟨er.1.toArray⟩, .int .i64 er.2.1, .int .i64 er.2.2] := by rw [hW1]; exact Row.new _ _ _
  rw [← hW1]
  have g0 := hg.cell (i := 0) (v := .string ⟨er.1.toArray⟩) rfl
  have g1 := hg.cell (i := 1) (v := .int .i64 er.2.1) rfl
  have g2 := hg.cell (i := 2) (v := .int .i64 er.2.2) rfl
  have ka0 := (HA.out.below hb1 la).cell (i := 0) (v := u0) rfl
  have ka1 := (HA.out.below hb1 la).cell (i := 1) (v := u1) rfl
  have ka2 := (HA.out.below hb1 la).cell (i := 2) (v := u2) rfl
  have kb0 := (HB.out.below hb1 lb).cell (i := 0) (v := z0) rfl
  have kb1 := (HB.out.below hb1 lb).cell (i := 1) (v := z1) rfl
  have kc0 := (HC.out.below hb1 lc).cell (i := 0) (v := z2) rfl
  have ea0 := (HA.out.below hb1 la).free 0
  have ea1 := (HA.out.below hb1 la).free 1
  have ea2 := (HA.out.below hb1 la).free 2
  have eb0 := (HB.out.below hb1 lb).free 0
  have eb1 := (HB.out.below hb1 lb).free 1
  have ec0 := (HC.out.below hb1 lc).free 0
  have RA := Lib.hid (HA.out.below hb1 la)
  have RB := Lib.hid (HB.out.below hb1 lb)
  have RC := Lib.hid (HC.out.below hb1 lc)
  have HB1 := Lib.hid hb1
  generalize w.heap.size = gw at *
  clear hW1 hb1 hg a0 a1 a2 b0 b1 c0 fa0 fa1 fa2 fb0 fb1 fc0 HA HB HC HU
  have na : a ≠ gw := by omega
  have nb : b ≠ gw := by omega
  have nc : c ≠ gw := by omega
  have hba : b ≠ a := fun e => hab e.symm
  have hca : c ≠ a := fun e => hac e.symm
  have hcb : c ≠ b := fun e => hbc e.symm
  go_region_held3 (fun w' => w'.cell? ⟨gw, 0, none⟩ = some (.string ⟨er.1.toArray⟩) ∧ w'.cell? ⟨gw, 1, none⟩ = some (.int .i64 er.2.1) ∧ w'.cell? ⟨gw, 2, none⟩ = some (.int .i64 er.2.2)) (go_keep) (fail)
  have qa := (((((RA.out.set 0 (.slice none 0 0)).set 1 (.slice none 0 0)).set 2 (.slice none 0 0)).other (p := ⟨b, 0, none⟩) hab (.string ⟨er.1.toArray⟩)).other (p := ⟨b, 1, none⟩) hab (.int .i64 er.2.1)).other (p := ⟨c, 0, none⟩) hac (.int .i64 er.2.2)
  have qb := (((((RB.out.other (p := ⟨a, 0, none⟩) hba (.slice none 0 0)).other (p := ⟨a, 1, none⟩) hba (.slice none 0 0)).other (p := ⟨a, 2, none⟩) hba (.slice none 0 0)).set 0 (.string ⟨er.1.toArray⟩)).set 1 (.int .i64 er.2.1)).other (p := ⟨c, 0, none⟩) hbc (.int .i64 er.2.2)
  have qc := (((((RC.out.other (p := ⟨a, 0, none⟩) hca (.slice none 0 0)).other (p := ⟨a, 1, none⟩) hca (.slice none 0 0)).other (p := ⟨a, 2, none⟩) hca (.slice none 0 0)).other (p := ⟨b, 0, none⟩) hcb (.string ⟨er.1.toArray⟩)).other (p := ⟨b, 1, none⟩) hcb (.int .i64 er.2.1)).set 0 (.int .i64 er.2.2)
  refine ⟨rfl, qa.drew, qb.drew, qc.drew, ?_⟩
  have hB0 : B ≤ gw := by omega
  exact (((((((HB1.out.mono hB0).setCell (p := ⟨a, 0, none⟩) h1 _).setCell (p := ⟨a, 1, none⟩) h1 _).setCell (p := ⟨a, 2, none⟩) h1 _).setCell (p := ⟨b, 0, none⟩) h2 _).setCell (p := ⟨b, 1, none⟩) h2 _).setCell (p := ⟨c, 0, none⟩) h3 _).drew
theorem uncaught (w : World) (a b c : Nat) :
    CallsD Try.prog 62 #[.pointer (some ⟨a, 0, none⟩), .pointer (some ⟨b, 0, none⟩), .pointer (some ⟨c, 0, none⟩)] .returning w fun e u' w' => e = .returned (.tuple #[]) ∧ u' = .returning ∧ w' = w := by
  refine callsD_of_wpS Try.func62 rfl fun c₀ cs hu => ?_
  simp only [Try.ntmps62, List.size_toArray, List.length_cons, List.length_nil, Nat.reduceAdd, Nat.reduceSub, Array.replicate_succ, Array.replicate_zero, List.push_toArray, List.append_toArray, List.nil_append, List.cons_append]
  apply wpS_seq
  apply wpS_region
  simp [wpOpsS, go_sem, recoverD, hu, Exit.thenS]
  refine wpS_of_wp (Code.wp_mono (Q := CaughtQ (· = w)) ?_ ?_)
  · intro e a' w' h
    cases e with
    | normal => exact ⟨h.1, _, (by cases c₀; simp_all), _, results_none rfl _ _ _, rfl, rfl, h.2⟩
    | ret => exact ⟨h.1, _, (by cases c₀; simp_all), _, results_none rfl _ _ _, rfl, rfl, h.2⟩
    | panic ch => exact h.elim
    | exit id => exact h.elim
    | goto l => exact h.elim
    | outgrown => exact h.elim
  clear hu
  go_wp2
  exact ⟨rfl, rfl⟩
theorem FilesAt.up {B B' : Nat} {w w' : World} {fm : Value} {fs : List UInt8 → Option (List UInt8)} (h : FilesAt B w fm fs) (hB : B ≤ B') (hb : Below B w w') : FilesAt B' w' fm fs :=
  ⟨fun b e => Nat.lt_of_lt_of_le (h.low b e) hB, h.own, fun w2 h2 s hs => h.look w2 (fun k hk => (h2 k (by omega)).trans (hb.block k hk)) s hs, h.size, fun w2 h2 => h.mx w2 fun k hk => (h2 k (by omega)).trans (hb.block k hk)⟩
/-- what Read returns -/
def ReadPost (w : World) (r : RdS ⊕ ErrD) (e : Ending) (w' : World) : Prop := match r with
  | .inl y => ∃ vf vw vc, e = .returned (.tuple #[.agg #[vf, vw, vc], .agg #[.string ⟨#[]⟩, .int .i64 0], .int .i64 0]) ∧ w'.ownsRow w.heap.size 9 1 vf y.files.length (y.files.map strV) ∧ w'.ownsRow w.heap.size 95 3 vw y.words.length (y.words.flatMap wordCells) ∧ w'.ownsRow w.heap.size 91 4 vc y.coms.length (y.coms.flatMap comfCells) ∧ Below w.heap.size w w'
  | .inr x => e = .returned (.tuple #[.agg #[.slice none 0 0, .slice none 0 0, .slice none 0 0], .agg #[.string ⟨x.1.toArray⟩, .int .i64 x.2.1], .int .i64 x.2.2]) ∧ Below w.heap.size w w'
set_option maxRecDepth 100000 in
set_option maxHeartbeats 4000000 in
theorem read_any (w : World) (mb : Option Nat) (fs : List UInt8 → Option (List UInt8)) (main : List UInt8) (hF : FilesAt w.heap.size w (.map mb) fs) (hn : main.length ≤ maxLen) :
    Calls Try.prog 32 #[.map mb, .string ⟨main.toArray⟩] w (ReadPost w (readS fs main)) := by
  have hmf : ∀ (fn : Fn) (first cap : Array Value) (w : World), (Instr.makeFunc fn first cap).run Try.prog w = .ok (.func fn first cap) w := fun _ _ _ _ => rfl
  have hmm := @run_makeMap Try.prog
  obtain ⟨W3, hW3⟩ : ∃ W3, W3 = ((w.alloc (.cells #[.slice none 0 0, .slice none 0 0, .slice none 0 0] 54)).alloc (.cells #[.string ⟨#[]⟩, .int .i64 0] 56)).alloc (.cells #[.int .i64 0] 46) := ⟨_, rfl⟩
  have hz3 : W3.heap.size = w.heap.size + 1 + 1 + 1 := by rw [hW3]; simp
  have hb3 : Below w.heap.size w W3 := by rw [hW3]; exact new_ (new_ (new_ (Below.refl _ _) _) _) _
  obtain ⟨W5, hW5⟩ : ∃ W5, W5 = (W3.alloc (.map #[] 0)).alloc (.cells #[.map mb, .map (some (w.heap.size + 1 + 1 + 1)), .slice none 0 0, .slice none 0 0, .slice none 0 0, .int .i64 0] 136) := ⟨_, rfl⟩
  have hb5 : Below W3.heap.size W3 W5 := by rw [hW5]; exact new_ (new_ (Below.refl _ _) _) _
  have hr5 : Row W5 (w.heap.size + 1 + 1 + 1 + 1) 136 #[.map mb, .map (some (w.heap.size + 1 + 1 + 1)), .slice none 0 0, .slice none 0 0, .slice none 0 0, .int .i64 0] := by rw [hW5]; exact Row.new' _ _ _ (by simp [hz3])
  have hs5 : SetM W5 (w.heap.size + 1 + 1 + 1) [] := by rw [hW5, ← hz3]; exact (SetM.new W3).below (new_ (Below.refl _ _) _)
  have ra : Row W5 w.heap.size 54 #[.slice none 0 0, .slice none 0 0, .slice none 0 0] := Row.below (by rw [hW3]; exact ((Row.new _ _ _).alloc _).alloc _) hb5 (by omega)
  have rb : Row W5 (w.heap.size + 1) 56 #[.string ⟨#[]⟩, .int .i64 0] := Row.below (by rw [hW3]; exact (Row.new' _ _ _ (by simp)).alloc _) hb5 (by omega)
  have rc : Row W5 (w.heap.size + 1 + 1) 46 #[.int .i64 0] := Row.below (by rw [hW3]; exact Row.new' _ _ _ (by simp)) hb5 (by omega)
  have hB5 : Below w.heap.size w W5 := hb3.trans (hb5.mono (by omega))
  have l1 := (hF.look W5 (fun k hk => hB5.block k hk) main hn).1
  have HTA : Hid (TakAt (w.heap.size + 1 + 1 + 1) W5 (w.heap.size + 1 + 1 + 1 + 1) (w.heap.size + 1 + 1 + 1) (.map mb) ⟨[], [], [], 0⟩ (.slice none 0 0) (.slice none 0 0) (.slice none 0 0)) := Lib.hid ⟨hr5, World.ownsRow_nil _ _ _ _, World.ownsRow_nil _ _ _ _, World.ownsRow_nil _ _ _ _, hs5, by omega, by omega⟩
  have HF5 : Hid (FilesAt (w.heap.size + 1 + 1 + 1) W5 (.map mb) fs) := Lib.hid (hF.up (by omega) hB5)
  have HB5 := Lib.hid hB5
  have HRA := Lib.hid ra
  have HRB := Lib.hid rb
  have HRC := Lib.hid rc
  clear hb3 hb5 hr5 hs5 ra rb rc hB5 hF hz3
  subst hW5
  subst hW3
  cases hfs : fs main with
  | none =>
    have HR : Hid (readS fs main = .inr (main, 0, 44)) := Lib.hid (by unfold readS; rw [hfs])
    rw [hfs] at l1
    clear hfs
    go_enter_defers Try.func32, Try.ntmps32
    go_wp2
    rw [HR.out]
    refine leaves_cons (f := 62) (args := #[.pointer (some ⟨w.heap.size, 0, none⟩), .pointer (some ⟨w.heap.size + 1, 0, none⟩), .pointer (some ⟨w.heap.size + 1 + 1, 0, none⟩)]) (by simp) (by simp [go_sem]) ?_
    refine (uncaught _ _ _ _).mono ?_
    rintro e u' w'' ⟨rfl, rfl, rfl⟩
    refine ⟨.tuple #[.agg #[.slice none 0 0, .slice none 0 0, .slice none 0 0], .agg #[.string ⟨main.toArray⟩, .int .i64 0], .int .i64 44], by simp [results, Try.results32, go_sem], rfl, ?_⟩
    exact new_ (new_ (new_ (new_ (new_ (Below.refl _ _) _) _) _) _) _
  | some text =>
    have HR : Hid (readS fs main = takeS fs 41 ⟨[], [], [], 0⟩ main) := Lib.hid (by unfold readS; rw [hfs])
    have HTK := Lib.hid (take_ok (w.heap.size + 1 + 1 + 1) (.map mb) fs 41 _ (w.heap.size + 1 + 1 + 1 + 1) (w.heap.size + 1 + 1 + 1) ⟨[], [], [], 0⟩ _ _ _ main HF5.out HTA.out ⟨by simp, by simp, by simp⟩ (by simp) hn (by simp) (by rw [hfs]; rfl) (by simp) (by simp))
    rw [hfs] at l1
    clear hfs
    cases htk : takeS fs 41 ⟨[], [], [], 0⟩ main with
    | inr er =>
      rw [htk] at HR HTK
      clear htk
      go_enter_defers Try.func32, Try.ntmps32
      go_wp2_with (go_at_call 63; (refine HTK.out.mono ?_; rintro e w1 ⟨rfl, hb1, hkn⟩))
      rw [HR.out]
      have ra1 := HRA.out.below hb1 (by omega)
      have rb1 := HRB.out.below hb1 (by omega)
      have rc1 := HRC.out.below hb1 (by omega)
      refine leaves_cons (f := 62) (args := #[.pointer (some ⟨w.heap.size, 0, none⟩), .pointer (some ⟨w.heap.size + 1, 0, none⟩), .pointer (some ⟨w.heap.size + 1 + 1, 0, none⟩)]) (by simp) (by simp [go_sem]) ?_
      refine (caught w1 w.heap.size (w.heap.size + 1) (w.heap.size + 1 + 1) w.heap.size er _ _ _ _ _ _ ra1 rb1 rc1 (Nat.le_refl _) (by omega) (by omega) (by omega) (by omega) (by omega)).mono ?_
      rintro e u' w'' ⟨rfl, rfl, qa, qb, qc, hbw⟩
      have a0 := qa.cell (i := 0) (v := .slice none 0 0) rfl
      have a1 := qa.cell (i := 1) (v := .slice none 0 0) rfl
      have a2 := qa.cell (i := 2) (v := .slice none 0 0) rfl
      have b0 := qb.cell (i := 0) (v := .string ⟨er.1.toArray⟩) rfl
      have b1 := qb.cell (i := 1) (v := .int .i64 er.2.1) rfl
      have c0 := qc.cell (i := 0) (v := .int .i64 er.2.2) rfl
      refine ⟨.tuple #[.agg #[.slice none 0 0, .slice none 0 0, .slice none 0 0], .agg #[.string ⟨er.1.toArray⟩, .int .i64 er.2.1], .int .i64 er.2.2], by simp [results, Try.results32, go_sem, a0, a1, a2, b0, b1, c0], rfl, ?_⟩
      exact (HB5.out.trans (hb1.mono (by omega))).trans hbw
    | inl y =>
      rw [htk] at HR HTK
      clear htk
      go_enter_defers Try.func32, Try.ntmps32
      go_wp2_with (go_at_call 63; (refine HTK.out.mono ?_; rintro e w1 ⟨rfl, vf, vw, vc, ht, hk⟩; have t2 := ht.row.cell (i := 2) (v := vf) rfl; have t3 := ht.row.cell (i := 3) (v := vw) rfl; have t4 := ht.row.cell (i := 4) (v := vc) rfl; have ra1 := HRA.out.below hk.below_of (by omega); have rb1 := HRB.out.below hk.below_of (by omega); have rc1 := HRC.out.below hk.below_of (by omega); have a0 := ra1.cell (i := 0) (v := .slice none 0 0) rfl; have a1 := ra1.cell (i := 1) (v := .slice none 0 0) rfl; have a2 := ra1.cell (i := 2) (v := .slice none 0 0) rfl; have b0 := rb1.cell (i := 0) (v := .string ⟨#[]⟩) rfl; have b1 := rb1.cell (i := 1) (v := .int .i64 0) rfl; have c0 := rc1.cell (i := 0) (v := .int .i64 0) rfl; have fa := ra1.free; have fb := rb1.free; have fc := rc1.free; have HT := Lib.hid ht; have HK := Lib.hid hk; have HRA1 := Lib.hid ra1; have HRB1 := Lib.hid rb1; have HRC1 := Lib.hid rc1; obtain ⟨fA, fc', rfl, _⟩ := own_form HT.out.fo; obtain ⟨wA, wc', rfl, _⟩ := own_form HT.out.wo; obtain ⟨cA, cc', rfl, _⟩ := own_form HT.out.co; clear ht hk ra1 rb1 rc1))
      rw [HR.out]
      refine leaves_cons (f := 62) (args := #[.pointer (some ⟨w.heap.size, 0, none⟩), .pointer (some ⟨w.heap.size + 1, 0, none⟩), .pointer (some ⟨w.heap.size + 1 + 1, 0, none⟩)]) (by simp) (by simp [go_sem]) ?_
      refine (uncaught _ _ _ _).mono ?_
      rintro e u' w'' ⟨rfl, rfl, rfl⟩
      have n1 : w.heap.size ≠ w.heap.size + 1 := by omega
      have n2 : w.heap.size ≠ w.heap.size + 1 + 1 := by omega
      have n3 : w.heap.size + 1 ≠ w.heap.size := by omega
      have n4 : w.heap.size + 1 ≠ w.heap.size + 1 + 1 := by omega
      have n5 : w.heap.size + 1 + 1 ≠ w.heap.size := by omega
      have n6 : w.heap.size + 1 + 1 ≠ w.heap.size + 1 := by omega
      have qa := (((((HRA1.out.set 0 (.slice fA y.files.length fc')).set 1 (.slice wA y.words.length wc')).set 2 (.slice cA y.coms.length cc')).other (p := ⟨w.heap.size + 1, 0, none⟩) n1 (.string ⟨#[]⟩)).other (p := ⟨w.heap.size + 1, 1, none⟩) n1 (.int .i64 0)).other (p := ⟨w.heap.size + 1 + 1, 0, none⟩) n2 (.int .i64 0)
      have qb := (((((HRB1.out.other (p := ⟨w.heap.size, 0, none⟩) n3 (.slice fA y.files.length fc')).other (p := ⟨w.heap.size, 1, none⟩) n3 (.slice wA y.words.length wc')).other (p := ⟨w.heap.size, 2, none⟩) n3 (.slice cA y.coms.length cc')).set 0 (.string ⟨#[]⟩)).set 1 (.int .i64 0)).other (p := ⟨w.heap.size + 1 + 1, 0, none⟩) n4 (.int .i64 0)
      have qc := (((((HRC1.out.other (p := ⟨w.heap.size, 0, none⟩) n5 (.slice fA y.files.length fc')).other (p := ⟨w.heap.size, 1, none⟩) n5 (.slice wA y.words.length wc')).other (p := ⟨w.heap.size, 2, none⟩) n5 (.slice cA y.coms.length cc')).other (p := ⟨w.heap.size + 1, 0, none⟩) n6 (.string ⟨#[]⟩)).other (p := ⟨w.heap.size + 1, 1, none⟩) n6 (.int .i64 0)).set 0 (.int .i64 0)
      obtain ⟨W9, hW9⟩ : ∃ W9, W9 = (((((w1.setCell ⟨w.heap.size, 0, none⟩ (.slice fA y.files.length fc')).setCell ⟨w.heap.size, 1, none⟩ (.slice wA y.words.length wc')).setCell ⟨w.heap.size, 2, none⟩ (.slice cA y.coms.length cc')).setCell ⟨w.heap.size + 1, 0, none⟩ (.string ⟨#[]⟩)).setCell ⟨w.heap.size + 1, 1, none⟩ (.int .i64 0)).setCell ⟨w.heap.size + 1 + 1, 0, none⟩ (.int .i64 0) := ⟨_, rfl⟩
      have hblk : ∀ k, w.heap.size + 1 + 1 + 1 ≤ k → W9.heap[k]? = w1.heap[k]? := fun k hk => by
        rw [hW9, Below.heap_setCell _ _ _ _ (by dsimp only; omega), Below.heap_setCell _ _ _ _ (by dsimp only; omega), Below.heap_setCell _ _ _ _ (by dsimp only; omega), Below.heap_setCell _ _ _ _ (by dsimp only; omega), Below.heap_setCell _ _ _ _ (by dsimp only; omega), Below.heap_setCell _ _ _ _ (by dsimp only; omega)]
      have hbw : Below w.heap.size w W9 := by
        rw [hW9]
        exact ((((((HB5.out.trans (HK.out.below_of.mono (by omega))).setCell (p := ⟨w.heap.size, 0, none⟩) (Nat.le_refl _) _).setCell (p := ⟨w.heap.size, 1, none⟩) (Nat.le_refl _) _).setCell (p := ⟨w.heap.size, 2, none⟩) (Nat.le_refl _) _).setCell (p := ⟨w.heap.size + 1, 0, none⟩) (by dsimp only; omega) _).setCell (p := ⟨w.heap.size + 1, 1, none⟩) (by dsimp only; omega) _).setCell (p := ⟨w.heap.size + 1 + 1, 0, none⟩) (by dsimp only; omega) _
      have ho : ∀ {e : TypeId} {s n : Nat} {v : Value} {xs : List Value}, w1.ownsRow (w.heap.size + 1 + 1 + 1) e s v n xs → W9.ownsRow w.heap.size e s v n xs := fun h =>
        own_lower (own_same h fun k o e hk => (hblk k (own_obj h e).1).trans hk) (by omega)
      rw [← hW9] at qa qb qc ⊢
      clear hW9 hblk
      have a0 := qa.cell (i := 0) (v := .slice fA y.files.length fc') rfl
      have a1 := qa.cell (i := 1) (v := .slice wA y.words.length wc') rfl
      have a2 := qa.cell (i := 2) (v := .slice cA y.coms.length cc') rfl
      have b0 := qb.cell (i := 0) (v := .string ⟨#[]⟩) rfl
      have b1 := qb.cell (i := 1) (v := .int .i64 0) rfl
      have c0 := qc.cell (i := 0) (v := .int .i64 0) rfl
      refine ⟨.tuple #[.agg #[.slice fA y.files.length fc', .slice wA y.words.length wc', .slice cA y.coms.length cc'], .agg #[.string ⟨#[]⟩, .int .i64 0], .int .i64 0], by simp [results, Try.results32, go_sem, a0, a1, a2, b0, b1, c0], _, _, _, rfl, ho HT.out.fo, ho HT.out.wo, ho HT.out.co, hbw⟩
end Go.Proofs.Ytignhjfobcnloaa
