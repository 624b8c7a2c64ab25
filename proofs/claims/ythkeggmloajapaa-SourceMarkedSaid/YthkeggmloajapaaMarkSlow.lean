/- sync.Once, in the run of one goroutine: the replacer is built. (After the kit's worked texts on sync.Once.) -/
import Derived.Test.YthkeggmloajapaaMarkOnce
import Derived.RegionTactic
namespace Go.Proofs.Ythkeggmloajapaa
open Go.RowKit
theorem mdisable (w : World) : (callFunc 62 #[]).run Try.prog w = .ok (.value (.tuple #[])) w := run_call_mark0 Try.func62 (by kernel_rfl) (by kernel_rfl) (by kernel_rfl) .disable (by kernel_rfl) w
theorem menable (w : World) : (callFunc 64 #[]).run Try.prog w = .ok (.value (.tuple #[])) w := run_call_mark0 Try.func64 (by kernel_rfl) (by kernel_rfl) (by kernel_rfl) .enable (by kernel_rfl) w
theorem macquire (a : Addr) (w : World) : (callFunc 65 #[.pointer (some a)]).run Try.prog w = .ok (.value (.tuple #[])) w := run_call_marked Try.func65 (by kernel_rfl) (by kernel_rfl) (by kernel_rfl) .acquire (by kernel_rfl) a w
theorem mrelease (a : Addr) (w : World) : (callFunc 67 #[.pointer (some a)]).run Try.prog w = .ok (.value (.tuple #[])) w := run_call_marked Try.func67 (by kernel_rfl) (by kernel_rfl) (by kernel_rfl) .releaseMerge (by kernel_rfl) a w
theorem mstore_deferred (a : Addr) (x : Value) (u : FrameMode) (w : World) (hc : w.cell? a = some x) (hz : w.frozen? a = false) :
    CallsD Try.prog 51 #[.pointer (some a), .bool true] u w fun e u' w' => u' = u ∧ (e = .returned (.tuple #[]) ∧ w' = w.drew.setCell a (.int .u32 1)) := by
  have hc' : w.drew.cell? a = some x := by go_simp
  have hz' : w.drew.frozen? a = false := by go_simp
  have hst := run_call_store (P := Try.prog) Try.func58 (by kernel_rfl) (by kernel_rfl) (by kernel_rfl) (by kernel_rfl) (k := .u32) (y := 1) hc' hz'
  go_enter_d Try.func51, Try.ntmps51
  go_wp2
  go_region_calls
  all_goals (go_end0; exact ⟨rfl, rfl⟩)
set_option maxRecDepth 100000 in
set_option maxHeartbeats 1600000 in
theorem munlock_deferred (a : Addr) (u : FrameMode) (w : World) (hc : w.cell? a = some (.int .i32 1)) (hz : w.frozen? a = false) :
    CallsD Try.prog 50 #[.pointer (some a)] u w fun e u' w' => u' = u ∧ (e = .returned (.tuple #[]) ∧ w' = w.setCell a (.int .i32 0)) := by
  have hd := mdisable
  have he := menable
  have hr := mrelease
  have hadd := run_call_add (P := Try.prog) Try.func68 (by kernel_rfl) (by kernel_rfl) (by kernel_rfl) .i32 (by kernel_rfl) (y := -1) (s := 0) hc hz (by simp [go_sem]; rfl)
  have hcv := run_convert_to_unsafe (P := Try.prog) (src := 136) (dst := 92) Try.underlying136 Try.underlying92 (by kernel_rfl) hc
  go_enter_d Try.func50, Try.ntmps50
  go_wp2
  go_end0
  go_wp2
  go_end0
  exact ⟨rfl, rfl⟩
set_option maxRecDepth 100000 in
set_option maxHeartbeats 1600000 in
theorem mlock_free (a : Addr) (w : World) (hc : w.cell? a = some (.int .i32 0)) (hz : w.frozen? a = false) :
    Calls Try.prog 49 #[.pointer (some a)] w fun e w' => e = .returned (.tuple #[]) ∧ w' = w.setCell a (.int .i32 1) := by
  have hd := mdisable
  have he := menable
  have ha := macquire
  have hcas := run_call_cas_hit (P := Try.prog) Try.func63 (by kernel_rfl) (by kernel_rfl) (by kernel_rfl) .i32 (by kernel_rfl) (y := 1) hc hz
  have hc' : (w.setCell a (.int .i32 1)).cell? a = some (.int .i32 1) := World.cell?_setCell_same w a _ hc
  have hcv := run_convert_to_unsafe (P := Try.prog) (src := 136) (dst := 92) Try.underlying136 Try.underlying92 (by kernel_rfl) hc'
  go_enter Try.func49, Try.ntmps49
  go_wp2
  first | go_end0 | (simp only [Exit.inBlock, Exit.then]; refine bodyPost_ret (results_none rfl _ _ _) rfl ?_) | refine bodyPost_ret (results_none rfl _ _ _) rfl ?_
  go_wp2
  go_end0
  exact ⟨rfl, rfl⟩
theorem NewRep.set0 {w : World} {R : Nat} {d m : Int} (h : NewRep w R d m) (m' : Int) : NewRep (w.setCell ⟨R, 1, none⟩ (.int .i32 m')) R d m' := by
  obtain ⟨O, c, hr, hO⟩ := h
  refine ⟨O, c, hr.set 1 _, fun j x hx => ?_⟩
  have h1 := hO j x hx
  have hne : O ≠ R := fun e => by
    subst e
    have h2 := h1
    rw [World.cell?, hr] at h2
    match j, hx with
    | 0, hx => simp at h2
    | 1, hx => simp at h2
    | 2, hx => simp at h2
    | 3, hx => simp at h2
    | 4, hx => simp at h2
    | 5, hx => simp at h2
    | n + 6, hx => simp [pairsL] at hx
  rw [World.cell?_setCell_other _ _ _ _ (fun e => hne (congrArg Addr.block e).symm)]
  exact h1
theorem mload_any (a : Addr) (x : Int) (w : World) (hc : w.cell? a = some (.int .u32 x)) : Calls Try.prog 38 #[.pointer (some a)] w fun e w' => e = .returned (.bool (x != 0)) ∧ w = w' := by
  have hl := run_call_load (P := Try.prog) Try.func48 (by kernel_rfl) (by kernel_rfl) (by kernel_rfl) .u32 (by kernel_rfl) hc
  go_enter Try.func38, Try.ntmps38
  go_wp2
  go_ret
  exact ⟨rfl, rfl⟩
set_option maxRecDepth 100000 in
set_option maxHeartbeats 1600000 in
theorem slow_any (w : World) (R : Nat) (h : NewRep w R 0 0) :
    Calls Try.prog 39 #[.pointer (some ⟨R, 0, none⟩), .func (.func 33) #[.pointer (some ⟨R, 0, none⟩)] #[]] w fun e w' => e = .returned (.tuple #[]) ∧ OldRep w' R 1 0 ∧ Below R w w' := by
  have HN := Lib.hid (h.set0 1)
  obtain ⟨O, c, hr, hO⟩ := h
  have h0 := hr.cell (i := 0) (v := .int .u32 0) rfl
  have h1 := hr.cell (i := 1) (v := .int .i32 0) rfl
  have f1 := hr.free 1
  have hr1 := hr.set 1 (.int .i32 1)
  have h01 := hr1.cell (i := 0) (v := .int .u32 0) rfl
  have hl := run_call_load (P := Try.prog) Try.func48 (by kernel_rfl) (by kernel_rfl) (by kernel_rfl) .u32 (by kernel_rfl) (w := w.setCell ⟨R, 1, none⟩ (.int .i32 1)) (a := ⟨R, 0, none⟩) (x := 0) h01
  have hnot : ∀ (x : Bool) (w : World), (Op.unary .not (.bool x)).run Try.prog w = .ok (.bool (!x)) w := fun _ _ => rfl
  have HBW : Hid (Below R w (w.setCell ⟨R, 1, none⟩ (.int .i32 1))) := Lib.hid (below_set _ (Nat.le_refl _))
  clear hr hO hr1
  go_enter_defers Try.func39, Try.ntmps39
  go_wp2_with (first | (go_at_call 38; refine (mload_any ⟨R, 0, none⟩ 0 _ h01).mono ?_; rintro e w' ⟨rfl, rfl⟩) | (go_at_call 49; refine (mlock_free ⟨R, 1, none⟩ _ (by go_simp) (by go_simp)).mono ?_; rintro e w' ⟨rfl, rfl⟩) | (go_at_call 33; refine (once_any _ R 0 1 HN.out).mono ?_; rintro e w2 ⟨rfl, ho, hb⟩; have HO := Lib.hid ho; have HB := Lib.hid hb; clear ho hb))
  obtain ⟨G, hR, hG⟩ := HO.out
  have q0 := hR.cell (i := 0) (v := .int .u32 0) rfl
  have q1 := hR.drew.set 0 (.int .u32 1)
  have z0 := hR.free 0
  refine leaves_cons (f := 51) (args := #[.pointer (some ⟨R, 0, none⟩), .bool true]) (by simp) (by simp [go_sem]) ?_
  refine (mstore_deferred ⟨R, 0, none⟩ (.int .u32 0) .returning _ q0 z0).mono ?_
  rintro e u' w'' ⟨rfl, rfl, rfl⟩
  refine leaves_cons (f := 50) (args := #[.pointer (some ⟨R, 1, none⟩)]) (by simp [settle]) (by simp [go_sem]) ?_
  refine (munlock_deferred ⟨R, 1, none⟩ _ _ (q1.cell (i := 1) (v := .int .i32 1) rfl) (q1.free 1)).mono ?_
  rintro e u' w'' ⟨rfl, rfl, rfl⟩
  have hfin : OldRep ((w2.drew.setCell ⟨R, 0, none⟩ (.int .u32 1)).setCell ⟨R, 1, none⟩ (.int .i32 0)) R 1 0 := ⟨G, q1.set 1 _, ((hG.kept fun _ _ _ hb => hb : RepAt (R + 1) w2.drew G).set).set⟩
  have hbel : Below R w ((w2.drew.setCell ⟨R, 0, none⟩ (.int .u32 1)).setCell ⟨R, 1, none⟩ (.int .i32 0)) := (HBW.out.trans HB.out).drew.trans ((below_set _ (Nat.le_refl _)).trans (below_set _ (Nat.le_refl _)))
  simp [Leaves, settle, results, Try.results39]
  exact ⟨hfin, hbel⟩
end Go.Proofs.Ythkeggmloajapaa
