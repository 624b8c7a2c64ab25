/- A replacer's Replace. -/
import Derived.Test.YthkeggmloajapaaMarkSlow
namespace Go.Proofs.Ythkeggmloajapaa
open Go.RowKit
set_option maxRecDepth 100000 in
set_option maxHeartbeats 1600000 in
theorem do_any (w : World) (R : Nat) (h : NewRep w R 0 0) :
    Calls Try.prog 32 #[.pointer (some ⟨R, 0, none⟩), .func (.func 33) #[.pointer (some ⟨R, 0, none⟩)] #[]] w fun e w' => e = .returned (.tuple #[]) ∧ OldRep w' R 1 0 ∧ Below R w w' := by
  have H := Lib.hid h
  obtain ⟨O, c, hr, hO⟩ := h
  have h0 := hr.cell (i := 0) (v := .int .u32 0) rfl
  have hnot : ∀ (x : Bool) (w : World), (Op.unary .not (.bool x)).run Try.prog w = .ok (.bool (!x)) w := fun _ _ => rfl
  clear hr hO
  go_enter Try.func32, Try.ntmps32
  go_wp2_with (first | (go_at_call 38; refine (mload_any ⟨R, 0, none⟩ 0 _ h0).mono ?_; rintro e w' ⟨rfl, rfl⟩) | (go_at_call 39; refine (slow_any _ R H.out).mono ?_; rintro e w2 ⟨rfl, ho, hb⟩; have HO := Lib.hid ho; have HB := Lib.hid hb; clear ho hb))
  go_end0
  exact ⟨rfl, HO.out, HB.out⟩
set_option maxRecDepth 100000 in
set_option maxHeartbeats 1600000 in
theorem replace_any (w : World) (R : Nat) (s : List UInt8) (h : NewRep w R 0 0) (hs : s.length ≤ 1000000) :
    Calls Try.prog 24 #[.pointer (some ⟨R, 0, none⟩), .string ⟨s.toArray⟩] w fun e w' => e = .returned (.string ⟨(dupS s).toArray⟩) ∧ Below R w w' := by
  have hmf : ∀ (fn : Fn) (first cap : Array Value) (w : World), (Instr.makeFunc fn first cap).run Try.prog w = .ok (.func fn first cap) w := fun _ _ _ _ => rfl
  have hmt : ∀ (G : Nat) (w : World), (method 278 117 (.pointer (some ⟨G, 0, none⟩)) "Replace").run Try.prog w = .ok (109, .pointer (some ⟨G, 0, none⟩)) w := fun _ _ => by kernel_rfl
  go_enter Try.func24, Try.ntmps24
  go_wp2_with (first | (go_at_call 32; refine (do_any _ R h).mono ?_; rintro e w2 ⟨rfl, ⟨G, hR, hG⟩, hb⟩; have HG := Lib.hid hG; have HB := Lib.hid hb; have hlt2 := hR.lt; have c3 := hR.cell (i := 3) (v := .iface 117 (.pointer (some ⟨G, 0, none⟩))) rfl; clear hR hG hb) | (go_at_call 109; refine (rep_any _ G s (R + 1) HG.out hs).mono ?_; rintro e w3 ⟨rfl, hb3⟩; have HB3 := Lib.hid hb3))
  go_ret
  exact ⟨rfl, HB.out.trans (HB3.out.mono (Nat.le_of_lt hlt2))⟩
end Go.Proofs.Ythkeggmloajapaa
