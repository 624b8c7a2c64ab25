/- A map from strings to slices that the call itself makes: what each key holds. -/
import Derived.Test.YtignhjfobcnloaaMapSet
namespace Go.Proofs.Ytignhjfobcnloaa
open Go.RowKit Go.Maps
/-- an element stands for itself -/
def unheld : DataW Value → Value
  | .held v => v
  | _ => undef
def heldR (v : Value) : Option (DataW Value × List MemPlace) := some (.held v, [])
/-- what a key of the datum holds -/
def holdsAt (D : DataW Value) (s : List UInt8) : Option Value → Prop
  | some v => Maps.has D (.string s) = true ∧ ∀ z, D.atKey (.string s) z = .held v
  | none => Maps.has D (.string s) = false
/-- block b is a map of at most n keys; f: what each key holds -/
def BMap (w : World) (b n : Nat) (f : List UInt8 → Option Value) : Prop := ∃ D, w.ownsMap (H := Value) Try.prog 9 heldR b n D ∧ ∀ s, holdsAt D s (f s)
theorem BMap.new (w : World) : BMap (w.alloc (.map #[] 0)) w.heap.size 0 (fun _ => none) := ⟨_, World.ownsMap_made _ _ _ _, fun _ => rfl⟩
theorem BMap.lt {w : World} {b n : Nat} {f : List UInt8 → Option Value} (h : BMap w b n f) : b < w.heap.size := by obtain ⟨D, h, _⟩ := h; exact h.lt
theorem BMap.kept {w w' : World} {b n : Nat} {f : List UInt8 → Option Value} {row : Option Nat} (h : BMap w b n f) (hg : w.grownBy w' row) (hne : some b ≠ row) : BMap w' b n f := by
  obtain ⟨D, h, hf⟩ := h
  exact ⟨D, h.kept hg hne, hf⟩
theorem BMap.below {w w' : World} {b n : Nat} {f : List UInt8 → Option Value} (h : BMap w b n f) (hb : Below w.heap.size w w') : BMap w' b n f :=
  h.kept (row := none) ⟨hb.os, hb.tape, hb.output, hb.size, fun k hk _ => hb.block k hk⟩ (by simp)
theorem BMap.look {w : World} {b n : Nat} {f : List UInt8 → Option Value} (h : BMap w b n f) (s : List UInt8) (hs : s.length ≤ maxLen) :
    (Instr.lookup 113 (.map (some b)) (.string ⟨s.toArray⟩) true).run Try.prog w = .ok (.tuple #[(f s).getD (.slice none 0 0), .bool (f s).isSome]) w := by
  obtain ⟨D, h, hf⟩ := h
  obtain ⟨v, ps, hrun, hv⟩ := h.look_ok (t := 113) (string_keyed Try.underlying9) Try.underlying113 (z := .slice none 0 0) (zd := .held (.slice none 0 0)) (zp := []) (by kernel_rfl) rfl (keyOf_str s hs)
  have h1 := hf s
  rw [hrun]
  replace hv : DataW.held v = D.atKey (.string s) (.held (.slice none 0 0)) := Option.some.inj (congrArg (fun x => x.map (·.1)) hv)
  cases hfs : f s with
  | none =>
    rw [hfs] at h1
    have h2 : Maps.has D (.string s) = false := h1
    rw [atKey_of_not_has h2] at hv
    rw [h2, show v = .slice none 0 0 from congrArg unheld hv]
    rfl
  | some u =>
    rw [hfs] at h1
    obtain ⟨h2, h3⟩ := h1
    rw [h3] at hv
    rw [h2, show v = u from congrArg unheld hv]
    rfl
theorem BMap.put {w : World} {b n : Nat} {f : List UInt8 → Option Value} (h : BMap w b n f) (s : List UInt8) (v : Value) (hs : s.length ≤ maxLen) (hl : n < maxLen) :
    ∃ w', (Instr.mapUpdate 113 (.map (some b)) (.string ⟨s.toArray⟩) v).run Try.prog w = .ok () w' ∧ BMap w' b (n + 1) (fun t => if t = s then some v else f t) ∧ w.grownBy w' (some b) := by
  obtain ⟨D, h, hf⟩ := h
  have hm := h.isMap
  obtain ⟨w', hrun, hown, hg⟩ := h.update (t := 113) (e := 22) (string_keyed Try.underlying9) Try.underlying113 hl (keyOf_str s hs) (show heldR v = some (.held v, []) from rfl)
  refine ⟨w', hrun, ⟨_, hown, fun t => ?_⟩, hg⟩
  by_cases e : t = s
  · subst e
    show holdsAt _ t (if t = t then some v else f t)
    rw [if_pos rfl]
    have hk : WideAt.IsKeyLit (Lit.string t) := trivial
    exact ⟨has_put_same hm hk _, fun z => atKey_put_same hm hk _ _⟩
  · show holdsAt _ t (if t = s then some v else f t)
    rw [if_neg e]
    have hne : Lit.string t ≠ Lit.string s := fun h => e (by injection h)
    have h1 := hf t
    cases hft : f t with
    | none =>
      rw [hft] at h1
      show Maps.has _ _ = false
      rw [has_put_other hne]; exact h1
    | some u =>
      rw [hft] at h1
      exact ⟨by rw [has_put_other hne]; exact h1.1, fun z => by rw [atKey_put_other hne]; exact h1.2 z⟩
end Go.Proofs.Ytignhjfobcnloaa
