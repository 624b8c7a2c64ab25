/- Rows of bindings of the call's own. -/
import Derived.Test.YtignhjfobcnloaaSubLim
import Derived.Test.YtignhjfobcnloaaComposePlain
import Derived.Test.YtignhjfobcnloaaSubCheck
import Derived.Deep.AppendLies
import Derived.Deep.RegionLaw
namespace Go.Proofs.Ytignhjfobcnloaa
open Go.RowKit Go.Maps Go.ChangeMaps
theorem infoBind : (Try.prog.info? 28).map (fun i => (i.zero, i.size, i.bytes)) = some (some (.agg #[.string ⟨#[]⟩, .slice none 0 0]), 2, 40) := by kernel_rfl
theorem BMap.look1 {w : World} {b n : Nat} {f : List UInt8 → Option Value} (h : BMap w b n f) (s : List UInt8) (hs : s.length ≤ maxLen) :
    (Instr.lookup 113 (.map (some b)) (.string ⟨s.toArray⟩) false).run Try.prog w = .ok ((f s).getD (.slice none 0 0)) w := by
  obtain ⟨D, h, hf⟩ := h
  obtain ⟨v, ps, hrun, hv⟩ := h.lookup (t := 113) (string_keyed Try.underlying9) Try.underlying113 (z := .slice none 0 0) (zd := .held (.slice none 0 0)) (zp := []) (by kernel_rfl) rfl (keyOf_str s hs)
  have h1 := hf s
  rw [hrun]
  replace hv : DataW.held v = D.atKey (.string s) (.held (.slice none 0 0)) := Option.some.inj (congrArg (fun x => x.map (·.1)) hv)
  cases hfs : f s with
  | none =>
    rw [hfs] at h1
    have h2 : Maps.has D (.string s) = false := h1
    rw [atKey_of_not_has h2] at hv
    rw [show v = .slice none 0 0 from congrArg unheld hv]
    rfl
  | some u =>
    rw [hfs] at h1
    obtain ⟨h2, h3⟩ := h1
    rw [h3] at hv
    rw [show v = u from congrArg unheld hv]
    rfl
def bcell (p : BindD × Value) : List Value := [.string ⟨p.1.1.toArray⟩, p.2]
/-- the slice value t is a row of strings of some call's own, or nil -/
def OwnStr (w : World) (t : Value) (l : Form) : Prop := ∃ b, w.ownsRow b 9 1 t l.length (l.map strV)
section
variable {w w' : World} {t v : Value} {l : Form} {base n : Nat} {xs : List Value} {z : List (BindD × Value)}
theorem OwnStr.strs (h : OwnStr w t l) : Strs w t l := by obtain ⟨b, h⟩ := h; exact strs_of_own h rfl
theorem OwnStr.below (h : OwnStr w t l) (hb : Below w.heap.size w w') : OwnStr w' t l := by obtain ⟨b, h⟩ := h; exact ⟨b, own_below h hb⟩
theorem OwnStr.aside (h : OwnStr w t l) (ho : w.ownsRow base 28 2 v n xs) (hg : w.grownBy w' v.ownBlock) : OwnStr w' t l := by
  obtain ⟨b, h⟩ := h
  refine ⟨b, h.kept hg ?_⟩
  rcases h.2 with ⟨rfl, _⟩ | ⟨g, cap, cur, rfl, _, hh, _⟩
  · exact .inl rfl
  · right
    intro e
    rcases ho.2 with ⟨rfl, _⟩ | ⟨g', cap', cur', rfl, _, hh', _⟩
    · cases e
    · obtain rfl : g = g' := by simpa [Value.ownBlock] using e
      rw [hh] at hh'
      simp at hh'
theorem OwnStr.one (h : OwnStr w t l) : t.oneCell' = true := by
  obtain ⟨b, h⟩ := h
  obtain ⟨A, c, rfl, _⟩ := own_form h
  rfl
structure BRow (w : World) (base : Nat) (v : Value) (z : List (BindD × Value)) : Prop where
  own : w.ownsRow base 28 2 v z.length (z.flatMap bcell)
  text : ∀ p ∈ z, OwnStr w p.2 p.1.2
theorem BRow.below (h : BRow w base v z) (hb : Below w.heap.size w w') : BRow w' base v z := ⟨own_below h.own hb, fun p hp => (h.text p hp).below hb⟩
theorem BRow.nil_ : BRow w base (.slice none 0 0) [] := ⟨World.ownsRow_nil _ _ _ _, by simp⟩
theorem flat2_at {α : Type} {f : α → List Value} (hf : ∀ x, (f x).length = 2) : ∀ {l : List α} {k : Nat} {x : α}, l[k]? = some x → (l.flatMap f)[k * 2]? = (f x)[0]? ∧ (l.flatMap f)[k * 2 + 1]? = (f x)[1]? := by
  intro l
  induction l with
  | nil => intro k x h; simp at h
  | cons a l ih =>
    intro k x h
    rw [List.flatMap_cons]
    cases k with
    | zero =>
      obtain rfl : a = x := by simpa using h
      rw [List.getElem?_append_left (by rw [hf]; omega), List.getElem?_append_left (by rw [hf]; omega)]
      exact ⟨rfl, rfl⟩
    | succ k =>
      rw [List.getElem?_append_right (by rw [hf]; omega), List.getElem?_append_right (by rw [hf]; omega), hf]
      have := ih (k := k) (x := x) (by simpa using h)
      rw [show (k + 1) * 2 - 2 = k * 2 by omega, show (k + 1) * 2 + 1 - 2 = k * 2 + 1 by omega]
      exact this
theorem BRow.bindAt (h : BRow w base v z) : BindAt w v (z.map (·.1)) := by
  obtain ⟨A, c, hv, hc, hm, hl, hr⟩ := Rds.of_own h.own
  refine ⟨A, c, by simpa using hv, by simpa using hc, by simpa using hm, fun k x hk => ?_⟩
  rw [List.getElem?_map] at hk
  obtain ⟨p, hp, rfl⟩ := Option.map_eq_some_iff.1 hk
  have hk2 : k < z.length := (List.getElem?_eq_some_iff.1 hp).1
  obtain ⟨b, o, ha, hz⟩ := hr (by omega)
  obtain ⟨f0, f1⟩ := flat2_at (f := bcell) (fun _ => rfl) hp
  exact ⟨b, o, p.2, ha, hz _ _ (by rw [f0]; rfl), by have := hz _ _ (f1.trans rfl); rwa [← Nat.add_assoc] at this, (h.text p (List.mem_of_getElem? hp)).strs⟩
theorem BRow.snoc {W w1 : World} {v' : Value} (h : BRow W base v z) (x : BindD) {t : Value} (ht : OwnStr W t x.2) (hg : W.grownBy w1 v.ownBlock) (ho : w1.ownsRow base 28 2 v' (z.length + 1) (z.flatMap bcell ++ [.string ⟨x.1.toArray⟩, t])) : BRow w1 base v' (z ++ [(x, t)]) := by
  refine ⟨by simpa [bcell] using ho, fun p hp => ?_⟩
  rcases List.mem_append.1 hp with hp | hp
  · exact (h.text p hp).aside h.own hg
  · simp at hp
    rw [hp]
    exact ht.aside h.own hg
end
section
variable {P : Program} {w : World}
/-- append onto a row of the call's own, the source read as a list, at a step of a region that draws -/
theorem step_append_rds {ops : Array Oper} {o : Oper} {a : Act} {K : Act → World → Prop} {Q : Exit → Act → World → Prop} {E : Prop} (hgd : o.guard = none) (s x : Operand) (t : TypeId)
    (ho : o.op = .call { callee := .builtin .append, args := #[s, x], argTypes := #[t, t] })
    (base : Nat) (e : TypeId) (i : TypeInfo) (z : Value) (size bytes : Nat) (ht : P.underlying t = some (.slice e)) (hi : P.info? e = some i) (hz : i.zero = some z)
    (hsize : i.size = size) (hby : i.bytes = bytes) (hzs : z.cells.size = size) (hsz : 0 < size)
    (v : Value) (n : Nat) (xs : List Value) (hs : a.eval s = v) (hown : w.ownsRow base e size v n xs)
    (y : Value) (m : Nat) (news : List Value) (hx : a.eval x = y) (hr : Rds w size y m news) (h1 : ∀ u ∈ news, u.oneCell' = true)
    (h63 : n + m ≤ maxLen) (hbytes : (n + m) * bytes ≤ 140737488355328) (hbase : base ≤ w.heap.size)
    (h : ∀ v' w', w'.ownsRow base e size v' (n + m) (xs ++ news) → w.grownBy w' v.ownBlock → K (a.put o.dst v') w') :
    if Region.wanted o (yielded ops a.tmps) = true then Oper.wp P o a w K Q else E := by
  have hw : Region.wanted o (yielded ops a.tmps) = true := by simp [Region.wanted, hgd]
  rw [if_pos hw]
  obtain ⟨A, c, rfl, hc, hm, hl, hcell⟩ := hr
  cases A with
  | none =>
    have h0 : m = 0 := by
      rcases Nat.eq_zero_or_pos m with h0 | h0
      · exact h0
      · obtain ⟨b, o', ha, _⟩ := hcell h0; cases ha
    subst h0
    obtain rfl : news = [] := List.eq_nil_of_length_eq_zero (by simpa using hl)
    have hrun := run_append_nil_any (P := P) (w := w) base t o.type e i size ht hi v n xs hown c
    unfold Oper.wp
    simp [execOp, ho, resolve, invoke, builtin, hs, hx, hrun, Result.andThen]
    exact h v w (by simpa using hown) (World.grownBy.refl w _)
  | some ad =>
    have hcells : ∀ j u, news[j]? = some u → w.cell? (ad.add j) = some u := by
      intro j u hu
      rcases Nat.eq_zero_or_pos m with h0 | h0
      · subst h0
        obtain rfl : news = [] := List.eq_nil_of_length_eq_zero (by simpa using hl)
        simp at hu
      · obtain ⟨b, o', ha, hz'⟩ := hcell h0
        obtain rfl : ad = ⟨b, o', none⟩ := by simpa using ha
        rw [addr_add]
        exact hz' j u hu
    obtain ⟨v', w', hrun, r1, r2, _⟩ := run_append_own (P := P) w base t o.type e i z size bytes ht hi hz hsize hby hzs hsz v n xs hown ad m c news hl hcells h1 h63 hbytes hbase
    unfold Oper.wp
    simp [execOp, ho, resolve, invoke, builtin, hs, hx, hrun, Result.andThen]
    exact h v' w' r1 r2
end
end Go.Proofs.Ytignhjfobcnloaa
