/- A word behind a statement's symbols or its proof. Lists of statements in memory. The steps within a statement, one by one. A statement whose slices are the call's own. -/
import Derived.Test.YtpmbfcogkoiogaaDoorLayMemA
import Derived.Test.YtpmbfcogkoiogaaDoorCellA
import Derived.Test.YtpmbfcogkoiogaaDoorKitA
import Derived.OwnWalk
import Derived.Test.YtpmbfcogkoiogaaDoorBldA
import Derived.Test.YtpmbfcogkoiogaaDoorLayPlain
section
namespace Go.Proofs.YtpmbfcogkoiogaaDoor
open Go.RowKit
theorem xat_form {w : World} {tv pv : Value} {k : Int} {l : List UInt8} {tx px : List (List UInt8)} (h : XAt w tv pv ⟨k, l, tx, px⟩) : (∃ A c, tv = .slice A tx.length c) ∧ ∃ A c, pv = .slice A px.length c := h.form
theorem str_ones {l : List (List UInt8)} : ∀ u ∈ l.map (fun s => Value.string ⟨s.toArray⟩), u.oneCell' = true := by
  intro u hu
  obtain ⟨s, _, rfl⟩ := List.mem_map.1 hu
  rfl
section
variable {w w2 w3 : World} {tv pv : Value} {x : StmD} {n : Nat} {xs : List Value} {V2 : Value} {cs : Array Value} {g : Nat} {sw : List UInt8}
theorem app_below (hg2 : (w.alloc (.cells #[] 9)).grownBy w2 (Value.slice (some ⟨w.heap.size, 0, none⟩) 0 0).ownBlock) (ho2 : w2.ownsRow w.heap.size 9 1 V2 n xs) (hg3 : (w2.alloc (.cells #[.string ⟨sw.toArray⟩] 9)).grownBy w3 V2.ownBlock) : Below w.heap.size w w3 := by
  have g1 : Below w.heap.size w w2 := ((Below.refl _ _).alloc (Nat.le_refl _) (.cells #[] 9)).grown hg2 (by simp) (by simp [Value.ownBlock])
  exact (g1.alloc g1.size (.cells #[.string ⟨sw.toArray⟩] 9)).grown hg3 (by have := g1.size; simp; omega) (fun k hk => (ho2.lt _ hk).1)
theorem xat_text {k : Int} {l : List UInt8} {tx px : List (List UInt8)} (ha : XAt w tv pv ⟨k, l, tx, px⟩) (hx : Row w g 34 cs) {base : Nat} {V : Value} (ho : w.ownsRow base 9 1 V (tx.length + 1) (tx.map (fun s => Value.string ⟨s.toArray⟩) ++ [.string ⟨sw.toArray⟩])) (u : Value) : XAt (w.setCell ⟨g, 2, none⟩ u) V pv ⟨k, l, tx ++ [sw], px⟩ := by
  refine ⟨Rds.store ?_ (TyB.of_own ho) hx (by decide) u, Rds.store ha.px ha.tp hx (by decide) u, (TyB.of_own ho).store hx (by decide) u, ha.tp.store hx (by decide) u⟩
  have h := Rds.of_own ho
  show Rds w 1 V (tx ++ [sw]).length ((tx ++ [sw]).map _)
  rw [List.map_append, List.length_append]
  exact h
theorem xat_proof {k : Int} {l : List UInt8} {tx px : List (List UInt8)} (ha : XAt w tv pv ⟨k, l, tx, px⟩) (hx : Row w g 34 cs) {base : Nat} {V : Value} (ho : w.ownsRow base 9 1 V (px.length + 1) (px.map (fun s => Value.string ⟨s.toArray⟩) ++ [.string ⟨sw.toArray⟩])) (u : Value) : XAt (w.setCell ⟨g, 3, none⟩ u) tv V ⟨k, l, tx, px ++ [sw]⟩ := by
  refine ⟨Rds.store ha.tx ha.tt hx (by decide) u, Rds.store ?_ (TyB.of_own ho) hx (by decide) u, ha.tt.store hx (by decide) u, (TyB.of_own ho).store hx (by decide) u⟩
  have h := Rds.of_own ho
  show Rds w 1 V (px ++ [sw]).length ((px ++ [sw]).map _)
  rw [List.map_append, List.length_append]
  exact h
end
theorem mostS_le (k : Int) : mostS k ≤ 200 := by
  unfold mostS
  split
  · decide
  · split <;> decide
/-- between two rounds of a statement's loop -/
def StmRel (w : World) (ws : List (List UInt8)) (R : (StmD × Nat) ⊕ (Nat × Int)) (at_ : Nat) (v1 v10 : Value) (wr : World) : Prop :=
  ∃ (j k : Nat) (pf : Bool) (l : List UInt8) (tx px : List (List UInt8)) (tv pv : Value), v1 = .int .i64 (j : Nat) ∧ v10 = .bool pf ∧ Row wr (w.heap.size + 1) 34 #[.int .i64 (k : Nat), .string ⟨l.toArray⟩, tv, pv] ∧ Row wr w.heap.size 34 #[.int .i64 0, .string ⟨#[]⟩, .slice none 0 0, .slice none 0 0] ∧
    XAt wr tv pv ⟨k, l, tx, px⟩ ∧ Below w.heap.size w wr ∧ j ≤ ws.length ∧ prun at_ (if pf then .proof ⟨k, l, tx, px⟩ else .text ⟨k, l, tx, px⟩) j (ws.drop j) = R ∧ px.length ≤ j ∧ tx.length ≤ mostS k ∧ 1 ≤ k ∧ k ≤ 7 ∧ (pf = true → k = 7)
end Go.Proofs.YtpmbfcogkoiogaaDoor
end
section
namespace Go.Proofs.YtpmbfcogkoiogaaDoor
open Go.RowKit
theorem flatR {α : Type} (n : Nat) (f : α → List Value) (hf : ∀ x, (f x).length = n) : ∀ (l : List α) (k i : Nat) (x : α), l[k]? = some x → i < n → (l.flatMap f)[k * n + i]? = (f x)[i]? := by
  intro l
  induction l with
  | nil => intro k i x h; simp at h
  | cons a l ih =>
    intro k i x h hi
    rw [List.flatMap_cons]
    cases k with
    | zero =>
      obtain rfl : a = x := by simpa using h
      rw [List.getElem?_append_left (by rw [hf]; omega)]
      congr 1; omega
    | succ k =>
      rw [List.getElem?_append_right (by rw [hf, Nat.succ_mul]; omega), hf]
      rw [← ih k i x (by simpa using h) hi]
      congr 1; rw [Nat.succ_mul]; omega
/-- a statement, and the slices that hold its symbols and its proof -/
abbrev StmP := StmD × Value × Value
def stmCells (p : StmP) : List Value := [.int .i64 p.1.kind, .string ⟨p.1.label.toArray⟩, p.2.1, p.2.2]
/-- the slice value v reads as the statements l -/
def Stms (w : World) (v : Value) (l : List StmD) : Prop :=
  ∃ ps : List StmP, l = ps.map (·.1) ∧ Rds w 4 v ps.length (ps.flatMap stmCells) ∧ ∀ p ∈ ps, Strs w p.2.1 p.1.text ∧ Strs w p.2.2 p.1.proof
/-- the same of a row of the call's own -/
def StmsO (w : World) (base : Nat) (v : Value) (l : List StmD) : Prop :=
  ∃ ps : List StmP, l = ps.map (·.1) ∧ w.ownsRow base 34 4 v ps.length (ps.flatMap stmCells) ∧ ∀ p ∈ ps, XAt w p.2.1 p.2.2 p.1
section
variable {w w' : World} {base n size : Nat} {v V : Value} {l : List StmD} {xs : List Value} {E t : TypeId}
theorem TyB.grown_at (h : TyB w E v) (ho : w.ownsRow base t size V n xs) (ht : t ≠ E) (hg : w.grownBy w' V.ownBlock) : ∀ k, v.ownBlock = some k → w'.heap[k]? = w.heap[k]? := by
  intro k e
  obtain ⟨c, fr, hk⟩ := h k e
  refine hg.block k (Array.getElem?_eq_some_iff.1 hk).1 fun e2 => ?_
  rcases ho.2 with ⟨rfl, _⟩ | ⟨g, cap, cur, rfl, _, hh, _⟩
  · cases e2
  · obtain rfl : k = g := by simpa [Value.ownBlock] using e2
    rw [hk] at hh
    exact ht (by simp at hh; exact hh.2.1.symm)
theorem TyB.grown (h : TyB w E v) (ho : w.ownsRow base t size V n xs) (ht : t ≠ E) (hg : w.grownBy w' V.ownBlock) : TyB w' E v := fun k e => by
  obtain ⟨c, fr, hk⟩ := h k e
  exact ⟨c, fr, (h.grown_at ho ht hg k e).trans hk⟩
theorem Rds.grown_ty {m sz : Nat} {ys : List Value} (hr : Rds w sz v m ys) (h : TyB w E v) (ho : w.ownsRow base t size V n xs) (ht : t ≠ E) (hg : w.grownBy w' V.ownBlock) : Rds w' sz v m ys :=
  hr.same fun k _ e o => by
    unfold World.cell?
    rw [h.grown_at ho ht hg k e]
theorem XAt.grown {tv pv : Value} {x : StmD} (h : XAt w tv pv x) (ho : w.ownsRow base 34 size V n xs) (hg : w.grownBy w' V.ownBlock) : XAt w' tv pv x :=
  ⟨Rds.grown_ty h.tx h.tt ho (by decide) hg, Rds.grown_ty h.px h.tp ho (by decide) hg, h.tt.grown ho (by decide) hg, h.tp.grown ho (by decide) hg⟩
theorem stmCells_len (ps : List StmP) : (ps.flatMap stmCells).length = ps.length * 4 := by
  induction ps with
  | nil => rfl
  | cons p r ih => rw [List.flatMap_cons, List.length_append, ih]; simp [stmCells]; omega
theorem stmCells_one (ps : List StmP) (h : ∀ p ∈ ps, (∃ A n c, p.2.1 = .slice A n c) ∧ ∃ A n c, p.2.2 = .slice A n c) : ∀ u ∈ ps.flatMap stmCells, u.oneCell' = true := by
  intro u hu
  obtain ⟨p, hp, hu⟩ := List.mem_flatMap.1 hu
  obtain ⟨⟨A, n, c, h1⟩, B, m, d, h2⟩ := h p hp
  simp [stmCells, h1, h2] at hu
  rcases hu with rfl | rfl | rfl | rfl <;> rfl
theorem Stms.nil (w : World) : Stms w (.slice none 0 0) [] := ⟨[], rfl, Rds.nil_, fun _ h => nomatch h⟩
theorem Stms.below (h : Stms w v l) (hb : Below w.heap.size w w') : Stms w' v l := by
  obtain ⟨ps, e, hr, hx⟩ := h
  exact ⟨ps, e, hr.below hb, fun p hp => ⟨(hx p hp).1.below hb, (hx p hp).2.below hb⟩⟩
theorem StmsO.below (h : StmsO w base v l) (hb : Below w.heap.size w w') : StmsO w' base v l := by
  obtain ⟨ps, e, hr, hx⟩ := h
  exact ⟨ps, e, own_below hr hb, fun p hp => (hx p hp).below hb⟩
theorem StmsO.stms (h : StmsO w base v l) : Stms w v l := by
  obtain ⟨ps, e, hr, hx⟩ := h
  exact ⟨ps, e, Rds.of_own hr, fun p hp => ⟨(hx p hp).tx, (hx p hp).px⟩⟩
theorem StmsO.nil (w : World) (base : Nat) : StmsO w base (.slice none 0 0) [] := ⟨[], rfl, ⟨rfl, .inl ⟨rfl, rfl⟩⟩, fun _ h => nomatch h⟩
theorem StmsO.len (h : StmsO w base v l) : ∃ A c, v = .slice A l.length c ∧ l.length ≤ c := by
  obtain ⟨ps, rfl, hr, _⟩ := h
  obtain ⟨A, c, h1, h2⟩ := own_form hr
  exact ⟨A, c, by simpa using h1, by simpa using h2⟩
/-- an element of a list of statements -/
theorem Stms.open_ (h : Stms w v l) : ∃ A c, v = .slice A l.length c ∧ l.length ≤ c ∧ l.length ≤ maxLen ∧
    ∀ k x, l[k]? = some x → ∃ b o tv pv, A = some ⟨b, o, none⟩ ∧ w.cell? ⟨b, o + k * 4, none⟩ = some (.int .i64 x.kind) ∧ w.cell? ⟨b, o + k * 4 + 1, none⟩ = some (.string ⟨x.label.toArray⟩) ∧ w.cell? ⟨b, o + k * 4 + 2, none⟩ = some tv ∧ w.cell? ⟨b, o + k * 4 + 3, none⟩ = some pv ∧ Strs w tv x.text ∧ Strs w pv x.proof := by
  obtain ⟨ps, rfl, ⟨A, c, hv, hc, hm, hl, hr⟩, hx⟩ := h
  refine ⟨A, c, by simpa using hv, by simpa using hc, by simpa using hm, fun k x hk => ?_⟩
  rw [List.getElem?_map] at hk
  obtain ⟨p, hp, rfl⟩ := Option.map_eq_some_iff.1 hk
  have hlt : k < ps.length := (List.getElem?_eq_some_iff.1 hp).1
  obtain ⟨b, o, ha, hz⟩ := hr (by omega)
  have hf := fun i hi => flatR 4 stmCells (fun _ => rfl) ps k i p hp hi
  have hh := hx p (List.mem_of_getElem? hp)
  exact ⟨b, o, p.2.1, p.2.2, ha, hz (k * 4) _ (hf 0 (by omega)), hz (k * 4 + 1) _ (hf 1 (by omega)), hz (k * 4 + 2) _ (hf 2 (by omega)), hz (k * 4 + 3) _ (hf 3 (by omega)), hh.1, hh.2⟩
/-- one more behind -/
theorem StmsO.snoc {ps : List StmP} {tv pv : Value} {x : StmD} (hp : ∀ p ∈ ps, XAt w p.2.1 p.2.2 p.1) (ho : w.ownsRow base 34 4 V ps.length (ps.flatMap stmCells)) (hx : XAt w tv pv x)
    (ho' : w'.ownsRow base 34 4 v (ps.length + 1) (ps.flatMap stmCells ++ [.int .i64 x.kind, .string ⟨x.label.toArray⟩, tv, pv])) (hg : w.grownBy w' V.ownBlock) : StmsO w' base v (ps.map (·.1) ++ [x]) := by
  refine ⟨ps ++ [(x, tv, pv)], by simp, ?_, fun p h => ?_⟩
  · simpa [stmCells] using ho'
  · rcases List.mem_append.1 h with h | h
    · exact (hp p h).grown ho hg
    · simp at h
      subst h
      exact hx.grown ho hg
end
theorem infoStm : (Tryd.prog.info? 34).map (fun i => (i.zero, i.size, i.bytes)) = some (some (.agg #[.int .i64 0, .string ⟨#[]⟩, .slice none 0 0, .slice none 0 0]), 4, 72) := by kernel_rfl
end Go.Proofs.YtpmbfcogkoiogaaDoor
end
section
namespace Go.Proofs.YtpmbfcogkoiogaaDoor
section
variable {w l : List UInt8} {s : StmD}
theorem ps_b_lab (h : kindS w ≠ 0) (hl : labS (kindS w) = true) : pstep .begin w = .inr (.inr (false, 51)) := by simp [pstep, h, hl]
theorem ps_b_one (h : kindS w ≠ 0) (hl : labS (kindS w) = false) (hm : mostS (kindS w) = 0) : pstep .begin w = .inr (.inl ⟨kindS w, [], [], []⟩) := by simp [pstep, h, hl, hm]
theorem ps_b_text (h : kindS w ≠ 0) (hl : labS (kindS w) = false) (hm : mostS (kindS w) ≠ 0) : pstep .begin w = .inl (.text ⟨kindS w, [], [], []⟩) := by simp [pstep, h, hl, hm]
theorem ps_b_kw (h : kindS w = 0) (hk : isKw w = true) : pstep .begin w = .inr (.inr (false, 50)) := by simp [pstep, h, hk]
theorem ps_b_key (h : kindS w = 0) (hk : isKw w = false) (ho : onlyS w [2]) : pstep .begin w = .inl (.key w) := by simp [pstep, h, hk, ho]
theorem ps_b_bad (h : kindS w = 0) (hk : isKw w = false) (ho : ¬ onlyS w [2]) : pstep .begin w = .inr (.inr (false, 51)) := by simp [pstep, h, hk, ho]
theorem ps_k_kw (h : kindS w = 0) : pstep (.key l) w = .inr (.inr (false, 50)) := by simp [pstep, h]
theorem ps_k_text (h : kindS w ≠ 0) (hl : labS (kindS w) = true) : pstep (.key l) w = .inl (.text ⟨kindS w, l, [], []⟩) := by simp [pstep, h, hl]
theorem ps_k_bad (h : kindS w ≠ 0) (hl : labS (kindS w) = false) : pstep (.key l) w = .inr (.inr (true, 51)) := by simp [pstep, h, hl]
theorem ps_t_short (h : w = [36, 46] ∨ w = [36, 61] ∧ s.kind = 7) (hs : s.text.length < leastS s.kind) : pstep (.text s) w = .inr (.inr (false, 53)) := by simp only [pstep, if_pos h, if_pos hs]
theorem ps_t_proof (h : w = [36, 61]) (h7 : s.kind = 7) (hs : ¬ s.text.length < leastS s.kind) : pstep (.text s) w = .inl (.proof s) := by simp only [pstep, if_pos (show w = [36, 46] ∨ w = [36, 61] ∧ s.kind = 7 from .inr ⟨h, h7⟩), if_neg hs, if_pos h]
theorem ps_t_noeq (h : w = [36, 46]) (h7 : s.kind = 7) (hs : ¬ s.text.length < leastS s.kind) : pstep (.text s) w = .inr (.inr (false, 50)) := by simp only [pstep, if_pos (show w = [36, 46] ∨ w = [36, 61] ∧ s.kind = 7 from .inl h), if_neg hs, if_neg (show ¬ w = [36, 61] by rw [h]; decide), if_pos h7]
theorem ps_t_done (h : w = [36, 46]) (h7 : s.kind ≠ 7) (hs : ¬ s.text.length < leastS s.kind) : pstep (.text s) w = .inr (.inl s) := by simp only [pstep, if_pos (show w = [36, 46] ∨ w = [36, 61] ∧ s.kind = 7 from .inl h), if_neg hs, if_neg (show ¬ w = [36, 61] by rw [h]; decide), if_neg h7]
theorem ps_t_kw (h : ¬ (w = [36, 46] ∨ w = [36, 61] ∧ s.kind = 7)) (hk : isKw w = true) : pstep (.text s) w = .inr (.inr (false, 50)) := by simp only [pstep, if_neg h, if_pos hk]
theorem ps_t_sym (h : ¬ (w = [36, 46] ∨ w = [36, 61] ∧ s.kind = 7)) (hk : isKw w = false) (ho : ¬ onlyS w [2, 3]) : pstep (.text s) w = .inr (.inr (false, 52)) := by simp only [pstep, if_neg h, if_neg (show ¬ isKw w = true by rw [hk]; decide), if_neg ho]
theorem ps_t_full (h : ¬ (w = [36, 46] ∨ w = [36, 61] ∧ s.kind = 7)) (hk : isKw w = false) (ho : onlyS w [2, 3]) (hf : s.text.length = mostS s.kind) : pstep (.text s) w = .inr (.inr (false, 53)) := by simp only [pstep, if_neg h, if_neg (show ¬ isKw w = true by rw [hk]; decide), if_pos ho, if_pos hf]
theorem ps_t_add (h : ¬ (w = [36, 46] ∨ w = [36, 61] ∧ s.kind = 7)) (hk : isKw w = false) (ho : onlyS w [2, 3]) (hf : ¬ s.text.length = mostS s.kind) : pstep (.text s) w = .inl (.text { s with text := s.text ++ [w] }) := by simp only [pstep, if_neg h, if_neg (show ¬ isKw w = true by rw [hk]; decide), if_pos ho, if_neg hf]
theorem ps_p_done (h : w = [36, 46]) : pstep (.proof s) w = .inr (.inl s) := by simp only [pstep, if_pos h]
theorem ps_p_kw (h : ¬ w = [36, 46]) (hk : isKw w = true) : pstep (.proof s) w = .inr (.inr (false, 50)) := by simp only [pstep, if_neg h, if_pos hk]
theorem ps_p_bad (h : ¬ w = [36, 46]) (hk : isKw w = false) (hp : prfS w = false) : pstep (.proof s) w = .inr (.inr (false, 54)) := by simp only [pstep, if_neg h, if_neg (show ¬ isKw w = true by rw [hk]; decide), if_neg (show ¬ prfS w = true by rw [hp]; decide)]
theorem ps_p_add (h : ¬ w = [36, 46]) (hk : isKw w = false) (hp : prfS w = true) : pstep (.proof s) w = .inl (.proof { s with proof := s.proof ++ [w] }) := by simp only [pstep, if_neg h, if_neg (show ¬ isKw w = true by rw [hk]; decide), if_pos hp]
end
end Go.Proofs.YtpmbfcogkoiogaaDoor
end
section
namespace Go.Proofs.YtpmbfcogkoiogaaDoor
open Go.RowKit
def strC (l : List (List UInt8)) : List Value := l.map fun s => Value.string ⟨s.toArray⟩
section
variable {w w' : World} {base n size : Nat} {v V : Value} {xs ys : List Value} {E t : TypeId} {g : Nat} {cs : Array Value}
theorem own_nil (w : World) (base : Nat) (E : TypeId) (size : Nat) : w.ownsRow base E size (.slice none 0 0) 0 [] := ⟨by simp, .inl ⟨rfl, rfl⟩⟩
theorem own_keep (h : w.ownsRow base E size v n xs) (hk : ∀ g, v.ownBlock = some g → w'.heap[g]? = w.heap[g]?) : w'.ownsRow base E size v n xs := by
  refine ⟨h.1, ?_⟩
  rcases h.2 with h | ⟨g, cap, cur, rfl, hg, hh, r⟩
  · exact .inl h
  · exact .inr ⟨g, cap, cur, rfl, hg, (hk g rfl).trans hh, r⟩
theorem own_ne (h : w.ownsRow base E size v n xs) (hr : Row w g t cs) (ht : t ≠ E) : v.ownBlock ≠ some g := by
  intro e
  rcases h.2 with ⟨rfl, _⟩ | ⟨k, cap, cur, rfl, _, hh, _⟩
  · cases e
  · obtain rfl : k = g := by simpa [Value.ownBlock] using e
    unfold Row at hr
    rw [hr] at hh
    exact ht (by simp at hh; exact hh.2)
theorem own_store (h : w.ownsRow base E size v n xs) (hr : Row w g t cs) (ht : t ≠ E) (i : Nat) (u : Value) : (w.setCell ⟨g, i, none⟩ u).ownsRow base E size v n xs :=
  own_keep h fun k e => Below.heap_setCell _ _ _ _ (by dsimp only; rintro rfl; exact own_ne h hr ht e)
/-- another row of the call's own grows -/
theorem own_grown {m sz : Nat} (h : w.ownsRow base E size v n xs) (hg : w.grownBy w' V.ownBlock) (hne : ∀ k, v.ownBlock = some k → V.ownBlock ≠ some k) (_ho : w.ownsRow base E sz V m ys) : w'.ownsRow base E size v n xs :=
  own_keep h fun k e => hg.block k (h.lt _ e).2 fun e2 => hne k e e2.symm
end
/-- both slices of a statement are the call's own; the proof's begins behind B -/
structure XOwn (w : World) (base B : Nat) (tv pv : Value) (tx px : List (List UInt8)) : Prop where
  t : w.ownsRow base 9 1 tv tx.length (strC tx)
  p : w.ownsRow B 9 1 pv px.length (strC px)
  le : base ≤ B
  lt : B ≤ w.heap.size
section
variable {w w' : World} {base B g : Nat} {tv pv : Value} {tx px : List (List UInt8)} {k : Int} {l : List UInt8} {cs : Array Value} {sw : List UInt8}
theorem XOwn.nil (w : World) : XOwn w w.heap.size w.heap.size (.slice none 0 0) (.slice none 0 0) [] [] := ⟨own_nil _ _ _ _, own_nil _ _ _ _, Nat.le_refl _, Nat.le_refl _⟩
theorem XOwn.below (h : XOwn w base B tv pv tx px) (hb : Below w.heap.size w w') : XOwn w' base B tv pv tx px := ⟨own_below h.t hb, own_below h.p hb, h.le, Nat.le_trans h.lt hb.size⟩
theorem XOwn.store (h : XOwn w base B tv pv tx px) (hr : Row w g 34 cs) (i : Nat) (u : Value) : XOwn (w.setCell ⟨g, i, none⟩ u) base B tv pv tx px :=
  ⟨own_store h.t hr (by decide) i u, own_store h.p hr (by decide) i u, h.le, by simpa using h.lt⟩
theorem XOwn.at_ (h : XOwn w base B tv pv tx px) : XAt w tv pv ⟨k, l, tx, px⟩ := ⟨Rds.of_own h.t, Rds.of_own h.p, TyB.of_own h.t, TyB.of_own h.p⟩
theorem XOwn.form (h : XOwn w base B tv pv tx px) : (∃ A c, tv = .slice A tx.length c) ∧ ∃ A c, pv = .slice A px.length c := by
  obtain ⟨A1, c1, rfl, _⟩ := own_form h.t
  obtain ⟨A2, c2, rfl, _⟩ := own_form h.p
  exact ⟨⟨_, _, rfl⟩, _, _, rfl⟩
/-- one word more behind the symbols -/
theorem XOwn.text {V : Value} (h : XOwn w base B tv (.slice none 0 0) tx []) (ho : w'.ownsRow base 9 1 V (tx.length + 1) (strC tx ++ [.string ⟨sw.toArray⟩])) (hg : w.grownBy w' tv.ownBlock) : XOwn w' base B V (.slice none 0 0) (tx ++ [sw]) [] :=
  ⟨by simpa [strC] using ho, own_nil _ _ _ _, h.le, Nat.le_trans h.lt hg.size⟩
/-- one word more behind the proof -/
theorem XOwn.proof {V : Value} (h : XOwn w base B tv pv tx px) (ht : ∀ g, tv.ownBlock = some g → g < B) (ho : w'.ownsRow B 9 1 V (px.length + 1) (strC px ++ [.string ⟨sw.toArray⟩])) (hg : w.grownBy w' pv.ownBlock) : XOwn w' base B tv V tx (px ++ [sw]) :=
  ⟨own_keep h.t fun k e => hg.block k (h.t.lt _ e).2 fun e2 => by
    have h1 := ht k e
    have h2 := (h.p.lt _ e2.symm).1
    omega, by simpa [strC] using ho, h.le, Nat.le_trans h.lt hg.size⟩
theorem XOwn.blk (h : XOwn w base B tv pv tx px) : ∀ g, tv.ownBlock = some g → g < w.heap.size := fun _ e => (h.t.lt _ e).2
/-- the proof's slice may begin later while it is empty -/
theorem XOwn.later (h : XOwn w base B tv (.slice none 0 0) tx []) : XOwn w base w.heap.size tv (.slice none 0 0) tx [] := ⟨h.t, own_nil _ _ _ _, Nat.le_trans h.le h.lt, Nat.le_refl _⟩
end
section
variable {w w4 w5 : World} {B g : Nat} {tv pv V5 : Value} {tx px : List (List UInt8)} {cs : Array Value} {sw : List UInt8} {o : Obj}
theorem app_proof (hr : Row w4 g 34 cs) (hx : XOwn w4 w.heap.size B tv pv tx px) (hb : Below w.heap.size w w4) (htb : ∀ g, tv.ownBlock = some g → g < B)
    (ho5 : w5.ownsRow B 9 1 V5 (px.length + 1) (strC px ++ [.string ⟨sw.toArray⟩])) (hg5 : (w4.alloc o).grownBy w5 pv.ownBlock) : (∃ A c, V5 = .slice A (px.length + 1) c) ∧ Row w5 g 34 cs ∧ XOwn w5 w.heap.size B tv V5 tx (px ++ [sw]) ∧ Below w.heap.size w w5 := by
  have h4 := ca_own_alloc hx.p o
  obtain ⟨A, c, e, _⟩ := own_form ho5
  have hx4 := hx.below (new_ (Below.refl _ _) o)
  exact ⟨⟨A, c, e⟩, (hr.alloc o).grown hg5 (fun e => own_ne h4 (hr.alloc o) (by decide) e.symm), hx4.proof htb ho5 hg5, Below.grown (new_ hb o) hg5 (Nat.le_trans hx4.le hx4.lt) fun k hk => Nat.le_trans hx.le (h4.lt _ hk).1⟩
theorem app_text (hr : Row w4 g 34 cs) (hx : XOwn w4 w.heap.size B tv (.slice none 0 0) tx []) (hb : Below w.heap.size w w4)
    (ho5 : w5.ownsRow w.heap.size 9 1 V5 (tx.length + 1) (strC tx ++ [.string ⟨sw.toArray⟩])) (hg5 : (w4.alloc o).grownBy w5 tv.ownBlock) : (∃ A c, V5 = .slice A (tx.length + 1) c) ∧ Row w5 g 34 cs ∧ XOwn w5 w.heap.size B V5 (.slice none 0 0) (tx ++ [sw]) [] ∧ Below w.heap.size w w5 := by
  have h4 := ca_own_alloc hx.t o
  obtain ⟨A, c, e, _⟩ := own_form ho5
  have hx4 := hx.below (new_ (Below.refl _ _) o)
  exact ⟨⟨A, c, e⟩, (hr.alloc o).grown hg5 (fun e => own_ne h4 (hr.alloc o) (by decide) e.symm), hx4.text ho5 hg5, Below.grown (new_ hb o) hg5 (Nat.le_trans hx4.le hx4.lt) fun k hk => (h4.lt _ hk).1⟩
end
def nilV : Value := .slice none 0 0
/-- within the reading of a statement -/
def RdSt (at_ : Nat) (ws : List (List UInt8)) (R : (StmD × Nat) ⊕ (Nat × Int)) (j : Nat) (st kz : Int) (l : List UInt8) (tx px : List (List UInt8)) (tv pv : Value) (B : Nat) : Prop :=
  (st = 0 ∧ kz = 0 ∧ l = [] ∧ tx = [] ∧ px = [] ∧ tv = .slice none 0 0 ∧ pv = .slice none 0 0 ∧ prun at_ .begin j (ws.drop j) = R) ∨
  (st = 1 ∧ kz = 0 ∧ tx = [] ∧ px = [] ∧ tv = .slice none 0 0 ∧ pv = .slice none 0 0 ∧ prun at_ (.key l) j (ws.drop j) = R) ∨
  (st = 2 ∧ px = [] ∧ pv = .slice none 0 0 ∧ ∃ k : Nat, kz = k ∧ 1 ≤ k ∧ k ≤ 7 ∧ tx.length ≤ mostS k ∧ prun at_ (.text ⟨k, l, tx, []⟩) j (ws.drop j) = R) ∨
  (st = 3 ∧ kz = 7 ∧ (∀ g, tv.ownBlock = some g → g < B) ∧ prun at_ (.proof ⟨7, l, tx, px⟩) j (ws.drop j) = R)
/-- between two rounds of the reading of a statement -/
def RdRel (w : World) (ws : List (List UInt8)) (R : (StmD × Nat) ⊕ (Nat × Int)) (at_ : Nat) (v7 v8 : Value) (wr : World) : Prop :=
  ∃ (j : Nat) (st kz : Int) (l : List UInt8) (tx px : List (List UInt8)) (tv pv : Value) (B : Nat), v7 = .int .i64 st ∧ v8 = .int .i64 (j : Nat) ∧ Row wr w.heap.size 34 #[.int .i64 kz, .string ⟨l.toArray⟩, tv, pv] ∧
    XOwn wr w.heap.size B tv pv tx px ∧ Below w.heap.size w wr ∧ j ≤ ws.length ∧ tx.length ≤ j ∧ px.length ≤ j ∧ RdSt at_ ws R j st kz l tx px tv pv B
end Go.Proofs.YtpmbfcogkoiogaaDoor
end
