/- The reference of statements: Parse. -/
import Derived.Test.YtpmbfcogkoiogaaDoorLayStmt
import Derived.Test.YtpmbfcogkoiogaaDoorLayList
namespace Go.Proofs.YtpmbfcogkoiogaaDoor
open Go.RowKit
/-- what the reading of a text's words returns -/
def ParsePost (w : World) (r : List StmD × Nat × Int) (e : Ending) (w' : World) : Prop :=
  ∃ v, e = .returned (.tuple #[v, .int .i64 (r.2.1 : Nat), .int .i64 r.2.2]) ∧ Stms w' v r.1 ∧ Below w.heap.size w w'
theorem parseF_end {ws : List (List UInt8)} {f i : Nat} {out : List StmD} (h : ws.length ≤ i) : parseF ws (f + 1) i out = (out, 0, 0) := by
  rw [parseF, if_pos h]
theorem parseF_full {ws : List (List UInt8)} {f i : Nat} {out : List StmD} (h : i < ws.length) (h2 : out.length = 2000) : parseF ws (f + 1) i out = ([], i, 8) := by
  rw [parseF, if_neg (by omega), if_pos h2]
theorem parseF_bad {ws : List (List UInt8)} {f i : Nat} {out : List StmD} {j : Nat} {z : Int} (h : i < ws.length) (h2 : out.length ≠ 2000) (hr : readW ws i = .inr (j, z)) : parseF ws (f + 1) i out = ([], j, z) := by
  rw [parseF, if_neg (by omega), if_neg h2, hr]
theorem parseF_go {ws : List (List UInt8)} {f i : Nat} {out : List StmD} {x : StmD} {j : Nat} (h : i < ws.length) (h2 : out.length ≠ 2000) (hr : readW ws i = .inl (x, j)) : parseF ws (f + 1) i out = parseF ws f j (out ++ [x]) := by
  rw [parseF, if_neg (by omega), if_neg h2, hr]
/-- between two rounds of Parse -/
def ParRel (w : World) (ws : List (List UInt8)) (R : List StmD × Nat × Int) (v5 v6 : Value) (wr : World) : Prop :=
  ∃ (i f : Nat) (ps : List StmP) (A : Option Addr) (c : Nat), v5 = .slice A ps.length c ∧ v6 = .int .i64 (i : Nat) ∧ i ≤ ws.length ∧ ws.length - i < f ∧ ps.length ≤ 2000 ∧ wr.ownsRow w.heap.size 34 4 v5 ps.length (ps.flatMap stmCells) ∧ (∀ p ∈ ps, XAt wr p.2.1 p.2.2 p.1) ∧ Below w.heap.size w wr ∧ parseF ws f i (ps.map (·.1)) = R
theorem read_inl {ws : List (List UInt8)} {i : Nat} {x : StmD} {j : Nat} {z : Int} (h : match readW ws i with | .inl (y, k) => x = y ∧ j = k ∧ z = 0 | .inr (k, c) => j = k ∧ z = c ∧ z ≠ 0) : (z = 0 ∧ readW ws i = .inl (x, j)) ∨ (z ≠ 0 ∧ readW ws i = .inr (j, z)) := by
  cases hr : readW ws i with
  | inl y => obtain ⟨y, k⟩ := y; rw [hr] at h; obtain ⟨rfl, rfl, rfl⟩ := h; exact .inl ⟨rfl, rfl⟩
  | inr y => obtain ⟨k, c⟩ := y; rw [hr] at h; obtain ⟨rfl, rfl, h⟩ := h; exact .inr ⟨h, rfl⟩
/-- behind the append of a statement -/
def ParApp (w : World) (ps : List StmP) (x : StmD) (V3 : Value) (w3 : World) : Prop :=
  ∃ (ps' : List StmP) (A' : Option Addr) (c' : Nat), V3 = .slice A' ps'.length c' ∧ ps'.length = ps.length + 1 ∧ ps.map (·.1) ++ [x] = ps'.map (·.1) ∧ w3.ownsRow w.heap.size 34 4 (.slice A' ps'.length c') ps'.length (ps'.flatMap stmCells) ∧ (∀ p ∈ ps', XAt w3 p.2.1 p.2.2 p.1) ∧ Below w.heap.size w w3
theorem par_app {w wr w2 w3 : World} {ps : List StmP} {V V3 tv pv : Value} {x : StmD} {o1 o2 : Obj} (hO : wr.ownsRow w.heap.size 34 4 V ps.length (ps.flatMap stmCells)) (hps : ∀ p ∈ ps, XAt wr p.2.1 p.2.2 p.1) (hB : Below w.heap.size w wr) (hb2 : Below wr.heap.size wr w2)
    (hx : XAt w2 tv pv x) (ho3 : w3.ownsRow w.heap.size 34 4 V3 (ps.length + 1) (ps.flatMap stmCells ++ [.int .i64 x.kind, .string ⟨x.label.toArray⟩, tv, pv])) (hg3 : ((w2.alloc o1).alloc o2).grownBy w3 V.ownBlock) : ParApp w ps x V3 w3 := by
  have h4 := ca_own_alloc (ca_own_alloc (own_below hO hb2) o1) o2
  have hb4 : Below wr.heap.size wr ((w2.alloc o1).alloc o2) := new_ (new_ hb2 o1) o2
  obtain ⟨ps', e', ho', hx'⟩ := StmsO.snoc (fun p hp => (hps p hp).below hb4) h4 (hx.below (new_ (new_ (Below.refl _ _) o1) o2)) ho3 hg3
  have hl' : ps'.length = ps.length + 1 := by have := congrArg List.length e'; simpa using this.symm
  obtain ⟨A', c', rfl, _⟩ := own_form ho'
  have hz := (then_ hB hb4).size
  exact ⟨ps', A', c', rfl, hl', e', ho', hx', Below.grown (then_ hB hb4) hg3 hz fun k hk => (h4.lt _ hk).1⟩
set_option maxRecDepth 100000 in
set_option maxHeartbeats 4000000 in
theorem ref_parse (w : World) (v : Value) (ws : List (List UInt8)) (hv : Strs w v ws) (hsz : ∀ u ∈ ws, u.length ≤ maxLen) :
    Calls Tryd.prog 13 #[v] w (ParsePost w (parseS ws)) := by
  have HV := Lib.hid hv
  have HSZ := Lib.hid hsz
  obtain ⟨A1, c1, rfl, hc1, hm1, hxx⟩ := hv.open_
  unfold maxLen at hm1
  clear hxx hsz hv
  by_cases h8 : 8000 < ws.length
  · have e8 : decide ((8000 : Int) < (ws.length : Int)) = true := decide_eq_true (by omega)
    have HP : Hid (parseS ws = ([], 0, 4)) := Lib.hid (by unfold parseS; rw [if_pos h8])
    rw [HP.out]
    clear h8
    go_enter Tryd.func13, Tryd.ntmps13
    go_wp2
    refine bodyPost_ret (v := .tuple #[.slice none 0 0, .int .i64 0, .int .i64 4]) (by simp [results, Tryd.results13, go_sem]) rfl ?_
    exact ⟨_, rfl, Stms.nil _, Below.refl _ _⟩
  have e8 : decide ((8000 : Int) < (ws.length : Int)) = false := decide_eq_false (by omega)
  obtain ⟨R, hR⟩ : ∃ R, parseS ws = R := ⟨_, rfl⟩
  have HR : Hid (parseF ws (ws.length + 1) 0 [] = R) := Lib.hid (by rw [← hR]; unfold parseS; rw [if_neg h8])
  rw [hR]
  clear hR
  go_enter Tryd.func13, Tryd.ntmps13
  go_wp2
  go_loopw [5, 6] (fun v5 v6 wr => ParRel w ws R v5 v6 wr) (fun _ v6 _ => ws.length - (intOf v6).toNat)
  case atStart =>
    refine ⟨0, ws.length + 1, [], _, _, rfl, rfl, Nat.zero_le _, by omega, by simp, ?_, fun p h => (nomatch h), new_ (Below.refl _ _) _, HR.out⟩
    have := World.ownsRow_made (base := w.heap.size) (e := 34) (size := 4) w #[] 0 (Nat.le_refl _) (by decide) (by simp)
    simpa using this
  case round =>
    obtain ⟨i, f, ps, A, c, rfl, rfl, hi, hf, ho, hO, hps, hB, hP⟩ := hrel
    have HO := Lib.hid hO
    have HPS := Lib.hid hps
    have HB := Lib.hid hB
    have HP := Lib.hid hP
    clear hO hps hB hP
    obtain ⟨f, rfl⟩ : ∃ f', f = f' + 1 := ⟨f - 1, by omega⟩
    by_cases hlt : i < ws.length
    · have e1 : decide ((i : Int) < (ws.length : Int)) = true := decide_eq_true (by omega)
      by_cases h2 : ps.length = 2000
      · have e2 : decide ((2000 : Int) ≤ (ps.length : Int)) = true := decide_eq_true (by omega)
        have HQ : Hid (R = ([], i, 8)) := Lib.hid (HP.out.symm.trans (parseF_full hlt (by simpa using h2)))
        clear h2
        go_wp2
        refine bodyPost_ret (v := .tuple #[.slice none 0 0, .int .i64 (i : Nat), .int .i64 8]) (by simp [results, Tryd.results13, go_sem]) rfl ?_
        rw [HQ.out]
        exact ⟨_, rfl, Stms.nil _, HB.out⟩
      · have e2 : decide ((2000 : Int) ≤ (ps.length : Int)) = false := decide_eq_false (by omega)
        have HN : Hid ((ps.map (·.1)).length ≠ 2000) := Lib.hid (by simpa using h2)
        have h3 : ps.length + 1 ≤ 2000 := by omega
        clear h2
        go_wp2_with fail
        refine (ref_statement wr _ ws i (HV.out.below HB.out) hlt (by omega) HSZ.out).mono ?_
        rintro e w2 ⟨x, tv, pv, j, z, rfl, hx, hb2, hm⟩
        unfold stmV
        obtain ⟨⟨T1, d1, rfl⟩, P1, d2, rfl⟩ := hx.form
        have HX := Lib.hid hx
        have HB2 := Lib.hid hb2
        have HM := Lib.hid (read_inl hm)
        clear hx hb2 hm
        by_cases hz : z = 0
        · subst hz
          have HQ : Hid (readW ws i = .inl (x, j)) := Lib.hid (HM.out.elim (·.2) fun h => absurd rfl h.1)
          obtain ⟨hij, hjl⟩ := readW_le HQ.out hi
          have HR2 := Lib.hid ((parseF_go hlt HN.out HQ.out).symm.trans HP.out)
          obtain ⟨i0, ki, k0, k1, k2⟩ := info_parts infoStm
          have hz2 := HB2.out.size
          have hzB := HB.out.size
          clear HM HN HP HQ
          go_wp2_with (at_builtin; (refine wpList_append_own _ rfl (.tmp 33) (.tmp 35) 23 rfl w.heap.size 34 i0 (.agg #[.int .i64 0, .string ⟨#[]⟩, .slice none 0 0, .slice none 0 0]) 4 72 Tryd.underlying23 ki k0 k1 k2 rfl (by decide) (.slice A ps.length c) ps.length (ps.flatMap stmCells) (by rfl) (ca_own_alloc (ca_own_alloc (own_below HO.out HB2.out) _) _) ⟨w2.heap.size + 1, 0, none⟩ 1 1 [.int .i64 x.kind, .string ⟨x.label.toArray⟩, .slice T1 x.text.length d1, .slice P1 x.proof.length d2] rfl rfl (cells_of' _ _ _ _ rfl (by simp)) (by simp [Value.oneCell']) (by unfold maxLen; omega) (by omega) (by simp; omega) ?_; intro v3 w3 ho3 hg3 _; have HS := Lib.hid (par_app HO.out HPS.out HB.out HB2.out HX.out ho3 hg3); clear ho3 hg3))
          obtain ⟨ps', A', c', rfl, hl', e', ho', hx', hb3⟩ := HS.out
          have HE' := Lib.hid e'
          have HO' := Lib.hid ho'
          have HX' := Lib.hid hx'
          have HB3 := Lib.hid hb3
          clear HS e' ho' hx' hb3
          go_roundw
          case rel => exact ⟨j, f, ps', A', c', rfl, rfl, hjl, by omega, by omega, HO'.out, HX'.out, HB3.out, by rw [← HE'.out]; exact HR2.out⟩
          case measure => simp [intOf]; omega
        · have ez : (z != 0) = true := by simpa using hz
          have HQ : Hid (R = ([], j, z)) := Lib.hid (HP.out.symm.trans (parseF_bad hlt HN.out (HM.out.elim (fun h => absurd h.1 hz) (·.2))))
          clear hz HM
          go_wp2
          refine bodyPost_ret (v := .tuple #[.slice none 0 0, .int .i64 (j : Nat), .int .i64 z]) (by simp [results, Tryd.results13, go_sem]) rfl ?_
          rw [HQ.out]
          exact ⟨_, rfl, Stms.nil _, new_ (then_ HB.out HB2.out) _⟩
    · have e1 : decide ((i : Int) < (ws.length : Int)) = false := decide_eq_false (by omega)
      have HQ : Hid (R = (ps.map (·.1), 0, 0)) := Lib.hid (HP.out.symm.trans (parseF_end (by omega)))
      go_wp2
      refine bodyPost_ret (v := .tuple #[.slice A ps.length c, .int .i64 0, .int .i64 0]) (by simp [results, Tryd.results13, go_sem]) rfl ?_
      rw [HQ.out]
      exact ⟨_, rfl, StmsO.stms ⟨ps, rfl, HO.out, HPS.out⟩, HB.out⟩
end Go.Proofs.YtpmbfcogkoiogaaDoor
