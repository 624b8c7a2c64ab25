/- Words and comments in the order of their offsets: the iterator. Words and comments in the order of their offsets: the iterator's contract. -/
import Derived.Test.YtignhjfobcnloaaSrcTaker
import Derived.Test.YtignhjfobcnloaaHandsKit
import Derived.Test.YtignhjfobcnloaaStripA
import Derived.Shelf.RegionOpen
section
namespace Go.Proofs.Ytignhjfobcnloaa
open Go.RowKit
/-- a word, or a comment's number -/
abbrev PieceI := TokD ⊕ Nat
def goesI (at_ : Int) (c : ComD) : Bool := decide (at_ < 0) || decide ((c.2.1 : Int) < at_)
/-- the comments that go ahead of an offset, by their numbers -/
def comI (at_ : Int) : Nat → List ComD → List PieceI
  | _, [] => []
  | k, c :: r => if goesI at_ c = true then .inr k :: comI at_ (k + 1) r else []
def mergeI : List TokD → Nat → List ComD → List PieceI
  | [], k, cs => comI (-1) k cs
  | w :: ws, k, cs => comI (w.2 : Nat) k cs ++ .inl w :: mergeI ws (k + (comI (w.2 : Nat) k cs).length) (cs.drop (comI (w.2 : Nat) k cs).length)
def pieceOf (cs : List ComD) : PieceI → Option PieceD
  | .inl t => some (.inl t)
  | .inr k => cs[k]?.map .inr
theorem comI_take (a : Int) : ∀ (r : List ComD) (k : Nat) (cs : List ComD), cs.drop k = r → (comI a k r).map (pieceOf cs) = (r.takeWhile (goesI a)).map (some ∘ .inr) ∧ (comI a k r).length = (r.takeWhile (goesI a)).length := by
  intro r
  induction r with
  | nil => intro k cs _; simp [comI]
  | cons c r ih =>
    intro k cs h
    have hk : cs[k]? = some c := by have := List.getElem?_drop (xs := cs) (i := k) (j := 0); rw [h] at this; simpa using this.symm
    have hd : cs.drop (k + 1) = r := by rw [← List.drop_drop, h]; rfl
    obtain ⟨i1, i2⟩ := ih (k + 1) cs hd
    unfold comI
    by_cases hg : goesI a c = true
    · rw [if_pos hg, List.takeWhile_cons_of_pos hg]
      simp [i1, i2, pieceOf, hk]
    · rw [if_neg hg, List.takeWhile_cons_of_neg hg]
      simp
theorem drop_takeWhile {α : Type} (p : α → Bool) : ∀ (l : List α), l.drop (l.takeWhile p).length = l.dropWhile p := by
  intro l
  induction l with
  | nil => rfl
  | cons x l ih =>
    by_cases h : p x = true
    · rw [List.takeWhile_cons_of_pos h, List.dropWhile_cons_of_pos h]; simpa using ih
    · rw [List.takeWhile_cons_of_neg h, List.dropWhile_cons_of_neg h]; rfl
theorem takeWhile_true {α : Type} (l : List α) : l.takeWhile (fun _ => true) = l := by induction l with | nil => rfl | cons x l ih => rw [List.takeWhile_cons_of_pos rfl, ih]
theorem goesI_neg : goesI (-1) = fun _ => true := by funext c; simp [goesI]
theorem goesI_nat (a : Nat) : goesI (a : Int) = fun c : ComD => decide (c.2.1 < a) := by
  funext c
  unfold goesI
  rw [show decide ((a : Int) < 0) = false from decide_eq_false (by omega), Bool.false_or]
  exact decide_eq_decide.2 (by omega)
theorem mergeI_pieces : ∀ (ws : List TokD) (k : Nat) (cs r : List ComD), cs.drop k = r → (mergeI ws k r).map (pieceOf cs) = (mergeS ws r).map some := by
  intro ws
  induction ws with
  | nil =>
    intro k cs r h
    unfold mergeI mergeS
    rw [(comI_take (-1) r k cs h).1, goesI_neg, takeWhile_true, List.map_map]
  | cons w ws ih =>
    intro k cs r h
    obtain ⟨i1, i2⟩ := comI_take (w.2 : Nat) r k cs h
    unfold mergeI mergeS
    rw [List.map_append, i1, i2, goesI_nat, List.map_append]
    congr 1
    · simp
    · rw [List.map_cons, List.map_cons, drop_takeWhile, ih _ cs _ (by rw [← List.drop_drop, h, drop_takeWhile])]
      rfl
/-- a comment's address -/
def comP (cv : Value) (k : Nat) : Value := match cv with
  | .slice (some ⟨b, o, _⟩) _ _ => .pointer (some ⟨b, o + k * 4, none⟩)
  | _ => .pointer none
def encM (cv : Value) : PieceI → Array Value
  | .inl t => #[.agg #[.string ⟨t.1.toArray⟩, .int .i64 (t.2 : Nat), .pointer none]]
  | .inr k => #[.agg #[.string ⟨#[]⟩, .int .i64 0, comP cv k]]
theorem comI_stop {a : Int} {k : Nat} {cs : List ComD} {c : ComD} (hc : cs[k]? = some c) (h : goesI a c = false) : comI a k (cs.drop k) = [] := by
  obtain ⟨hk, rfl⟩ := List.getElem?_eq_some_iff.1 hc
  rw [List.drop_eq_getElem_cons hk]
  unfold comI
  rw [if_neg (by simp [h])]
theorem comI_go {a : Int} {k : Nat} {cs : List ComD} {c : ComD} (hc : cs[k]? = some c) (h : goesI a c = true) : comI a k (cs.drop k) = .inr k :: comI a (k + 1) (cs.drop (k + 1)) := by
  obtain ⟨hk, rfl⟩ := List.getElem?_eq_some_iff.1 hc
  rw [List.drop_eq_getElem_cons hk]
  conv => lhs; unfold comI
  rw [if_pos h]
theorem comI_end {a : Int} (cs : List ComD) : comI a cs.length (cs.drop cs.length) = [] := by rw [List.drop_length]; rfl
theorem ptoI {J : List PieceI → World → Prop} {T : TypeId → Prop} {B : Nat} {W0 W : World} {pre : List PieceI} (hJ : Stable (okIter T) B J) (h : J pre W0) (hb : Below W0.heap.size W0 W) : J pre W := hJ _ _ _ h (Turn.grow hb)
theorem yield_two {n l : Nat} {args : Array Value} {W : World} {A B : World → Prop} {C : List PanicEntry → World → Prop} (h : YieldAt Fence.wide n Try.prog l args W fun e W' => (e = .returned (.bool true) ∧ A W') ∨ (e = .returned (.bool false) ∧ B W') ∨ (∃ ch, e = .panicked ch ∧ C ch W')) :
    YieldAt Fence.wide n Try.prog l args W fun e W' => (∃ b, e = .returned (.bool b) ∧ ((b = true ∧ A W') ∨ (b = false ∧ B W'))) ∨ (∃ ch, e = .panicked ch ∧ C ch W') := by
  obtain ⟨f, t, a, b, h1, h2⟩ := h
  refine ⟨f, t, a, b, h1, h2.mono ?_⟩
  rintro e W' (⟨rfl, h⟩ | ⟨rfl, h⟩ | ⟨ch, rfl, h⟩)
  · exact .inl ⟨_, rfl, .inl ⟨rfl, h⟩⟩
  · exact .inl ⟨_, rfl, .inr ⟨rfl, h⟩⟩
  · exact .inr ⟨_, rfl, h⟩
theorem turn_set {T : TypeId → Prop} {w : World} {g i B : Nat} {ty : TypeId} {cs : Array Value} (hr : Row w g ty cs) (hB : B ≤ g) (hT : T ty) (u : Value) : Turn (okIter T) B w (w.setCell ⟨g, i, none⟩ u) :=
  ⟨rfl, rfl, rfl, by simp [World.setCell], fun k o hk hh => by
    by_cases e : k = g
    · subst e
      obtain rfl : o = .cells cs ty := by unfold Row at hr; rw [hr] at hk; simpa using hk.symm
      rcases hh with h | h
      · omega
      · exact absurd (.inr ⟨_, _, _, rfl, hT⟩) h
    · exact (Below.heap_setCell _ _ _ _ (by dsimp only; exact e)).trans hk⟩
theorem below_set {B g : Nat} {a b : World} (h : Below B a b) (hB : B ≤ g) (u : Value) : Below B a (b.setCell ⟨g, 0, none⟩ u) :=
  ⟨h.os, h.tape, h.output, by have := h.size; simp [World.setCell]; exact this, fun k hk => (Below.heap_setCell _ _ _ _ (by dsimp only; omega)).trans (h.block k hk)⟩
/-- what the iterator holds in a world -/
structure RestAt (cs : List ComD) (cv : Value) (yl KB CB YB base : Nat) (Sf : World → Nat → Prop) (k : Nat) (W : World) : Prop where
  rk : Row W KB 3 #[.int .i64 k]
  rc : Row W CB 52 #[cv]
  ry : Row W YB 212 #[.func (.yield yl) #[] #[]]
  sk : Sf W KB
  sc : Sf W CB
  sy : Sf W YB
  own : W.ownsRow base 91 4 cv cs.length (cs.flatMap comCells)
  so : ∀ g, cv.ownBlock = some g → Sf W g
section
variable {cs : List ComD} {cv : Value} {yl KB CB YB base k : Nat} {Sf : World → Nat → Prop} {W W' : World} {B0 : Nat} {Kp : World → World → Prop} {G : World → Prop}
theorem RestAt.below (h : RestAt cs cv yl KB CB YB base Sf k W) (H : Hands B0 Kp G Sf) (hb : Below W.heap.size W W') : RestAt cs cv yl KB CB YB base Sf k W' :=
  ⟨h.rk.below hb h.rk.lt, h.rc.below hb h.rc.lt, h.ry.below hb h.ry.lt, H.grow _ _ _ h.sk hb, H.grow _ _ _ h.sc hb, H.grow _ _ _ h.sy hb, own_below h.own hb, fun g e => H.grow _ _ _ (h.so g e) hb⟩
theorem RestAt.round (h : RestAt cs cv yl KB CB YB base Sf k W) (H : Hands B0 Kp G Sf) (hk : Kp W W') : RestAt cs cv yl KB CB YB base Sf k W' :=
  ⟨H.row hk h.sk h.rk, H.row hk h.sc h.rc, H.row hk h.sy h.ry, (H.kept _ _ _ hk h.sk).1, (H.kept _ _ _ hk h.sc).1, (H.kept _ _ _ hk h.sy).1, H.own hk h.so h.own, fun g e => (H.kept _ _ _ hk (h.so g e)).1⟩
theorem RestAt.next (h : RestAt cs cv yl KB CB YB base Sf k W) (hS : ∀ W g u, Sf W g → Sf (W.setCell ⟨KB, 0, none⟩ u) g) (h1 : KB ≠ CB) (h2 : KB ≠ YB) (m : Nat) : RestAt cs cv yl KB CB YB base Sf m (W.setCell ⟨KB, 0, none⟩ (.int .i64 m)) :=
  ⟨h.rk.set 0 _, (Below.heap_setCell _ _ _ _ (by dsimp only; exact Ne.symm h1)).trans h.rc, (Below.heap_setCell _ _ _ _ (by dsimp only; exact Ne.symm h2)).trans h.ry, hS _ _ _ h.sk, hS _ _ _ h.sc, hS _ _ _ h.sy, h.own.kept (grown_set _ _ _ _) (.inr fun e => own_far h.own h.rk (by decide) e), fun g e => hS _ _ _ (h.so g e)⟩
end
/-- what the iterator's own blocks but one keep -/
def KeptX (Sf : World → Nat → Prop) (K : Nat) (W W' : World) : Prop := ∀ g, g ≠ K → Sf W g → Sf W' g ∧ ∀ o, (∀ r, o ≠ .loop r) → (∀ d, o ≠ .deferred d) → W.heap[g]? = some o → W'.heap[g]? = some o
section
variable {K : Nat} {Sf : World → Nat → Prop} {W W' W'' : World} {B0 : Nat} {Kp : World → World → Prop} {G : World → Prop}
theorem KeptX.refl (W : World) : KeptX Sf K W W := fun _ _ h => ⟨h, fun _ _ _ h => h⟩
theorem KeptX.trans (h : KeptX Sf K W W') (k : KeptX Sf K W' W'') : KeptX Sf K W W'' := fun g hg hs => ⟨(k g hg (h g hg hs).1).1, fun o h1 h2 ho => (k g hg (h g hg hs).1).2 o h1 h2 ((h g hg hs).2 o h1 h2 ho)⟩
theorem KeptX.grow (H : Hands B0 Kp G Sf) (hb : Below W.heap.size W W') : KeptX Sf K W W' := fun g _ hs => ⟨H.grow _ _ _ hs hb, fun _ _ _ ho => (hb.block g (Array.getElem?_eq_some_iff.1 ho).1).trans ho⟩
theorem KeptX.round (H : Hands B0 Kp G Sf) (hk : Kp W W') : KeptX Sf K W W' := fun _ _ hs => H.kept _ _ _ hk hs
theorem KeptX.set (hS : ∀ W g u, Sf W g → Sf (W.setCell ⟨K, 0, none⟩ u) g) (u : Value) : KeptX Sf K W (W.setCell ⟨K, 0, none⟩ u) := fun g hg hs => ⟨hS _ _ _ hs, fun _ _ _ ho => (Below.heap_setCell _ _ _ _ (by dsimp only; exact hg)).trans ho⟩
theorem KeptX.row (h : KeptX Sf K W W') {g : Nat} (hg : g ≠ K) (hs : Sf W g) {t : TypeId} {cs : Array Value} (hr : Row W g t cs) : Row W' g t cs := (h g hg hs).2 _ (by simp) (by simp) hr
theorem KeptX.own (h : KeptX Sf K W W') {base : Nat} {e : TypeId} {size n : Nat} {v : Value} {xs : List Value} (hg : ∀ g, v.ownBlock = some g → g ≠ K) (hs : ∀ g, v.ownBlock = some g → Sf W g) (ho : W.ownsRow base e size v n xs) : W'.ownsRow base e size v n xs := by
  refine ⟨ho.1, ?_⟩
  rcases ho.2 with h2 | ⟨g, cap, cur, rfl, hl, hh, r⟩
  · exact .inl h2
  · exact .inr ⟨g, cap, cur, rfl, hl, (h g (hg g rfl) (hs g rfl)).2 _ (by simp) (by simp) hh, r⟩
theorem yield_n {n m l : Nat} {args : Array Value} {W : World} {R : Ending → World → Prop} (h : YieldAt Fence.wide n Try.prog l args W R) : YieldAt Fence.wide m Try.prog l args W R := by
  obtain ⟨f, t, a, b, h1, h2⟩ := h
  exact ⟨f, t, a, b, h1, h2.1, fun c cs _ => h2.2 c cs (room_wide _)⟩
end
attribute [local go_sem] Oper.semAt_some
set_option maxRecDepth 100000 in
set_option maxHeartbeats 4000000 in
theorem rest_seq (n : Nat) (h1 : 1 ≤ n) {cs : List ComD} {cv : Value} {B0 base : Nat} {Kp : World → World → Prop} {G : World → Prop} {Sf : World → Nat → Prop} (H : Hands B0 Kp G Sf)
    {items : List PieceI} (yl : Nat) (J Jx : List PieceI → World → Prop) (Jp : List PanicEntry → List PieceI → World → Prop) (Bd : Nat) (hJ : Stable (okIter (· = 3)) Bd J) (_hG : ∀ pre W1, J pre W1 → G W1)
    (hY : ∀ pre x W1, J pre W1 → pre ++ [x] <+: items → YieldAt Fence.wide (n - 1) Try.prog yl (encM cv x) W1 fun e W' =>
      (e = .returned (.bool true) ∧ J (pre ++ [x]) W' ∧ Kp W1 W') ∨ (e = .returned (.bool false) ∧ Jx (pre ++ [x]) W') ∨ (∃ ch, e = .panicked ch ∧ Jp ch (pre ++ [x]) W'))
    (W : World) (KB CB YB : Nat) (at_ : Int) (k0 : Nat) (pre : List PieceI) (full : List PieceI) (hfull : full = pre ++ comI at_ k0 (cs.drop k0)) (kend : Nat) (hkend : kend = k0 + (comI at_ k0 (cs.drop k0)).length)
    (hpre : full <+: items) (hJ0 : J pre W) (hk0 : k0 ≤ cs.length) (hBd : Bd ≤ KB) (hR0 : RestAt cs cv yl KB CB YB base Sf k0 W) (hS : ∀ W g u, Sf W g → Sf (W.setCell ⟨KB, 0, none⟩ u) g)
    (ha : -1 ≤ at_ ∧ at_ ≤ 1000000000) (hn1 : KB ≠ CB) (hn2 : KB ≠ YB) (hkt : cs.length ≤ 1000000000) (hB0 : B0 ≤ KB) :
    CallsIn Fence.wide n Try.prog 122 #[.int .i64 at_, .pointer (some ⟨KB, 0, none⟩), .pointer (some ⟨CB, 0, none⟩), .pointer (some ⟨YB, 0, none⟩)] W fun e W' =>
      (e = .returned (.bool true) ∧ J full W' ∧ RestAt cs cv yl KB CB YB base Sf kend W' ∧ kend ≤ cs.length ∧ Below B0 W W' ∧ KeptX Sf KB W W') ∨
      (e = .returned (.bool false) ∧ ∃ p, Jx p W') ∨ ∃ ch p, e = .panicked ch ∧ Jp ch p W' := by
  obtain ⟨ha1, ha2⟩ := ha
  obtain ⟨cA, cc, rfl, hcc⟩ := own_form hR0.own
  have HF := Lib.hid hfull
  have HK := Lib.hid hkend
  have hkk : kend ≤ cs.length := by
    rw [hkend, (comI_take at_ _ k0 cs rfl).2]
    have := (List.takeWhile_sublist (l := cs.drop k0) (goesI at_)).length_le
    rw [List.length_drop] at this
    omega
  clear hfull hkend
  refine callsIn_of_wp Try.func122 rfl trivial ?_ rfl
  simp only [Try.ntmps122, List.size_toArray, List.length_cons, List.length_nil, Nat.reduceAdd, Nat.reduceSub, Array.replicate_succ, Array.replicate_zero, List.push_toArray, List.append_toArray, List.nil_append, List.cons_append]
  gi_wp2
  gi_loopw [] (fun wr => ∃ (k : Nat) (p : List PieceI), k ≤ cs.length ∧ J p wr ∧ full = p ++ comI at_ k (cs.drop k) ∧ kend = k + (comI at_ k (cs.drop k)).length ∧ RestAt cs (.slice cA cs.length cc) yl KB CB YB base Sf k wr ∧ Below B0 W wr ∧ KeptX Sf KB W wr) (fun wr => cs.length - (match wr.cell? ⟨KB, 0, none⟩ with | some v => (intOf v).toNat | none => 0))
  case atStart => exact ⟨k0, pre, hk0, hJ0, HF.out, HK.out, hR0, Below.refl _ _, KeptX.refl _⟩
  case round =>
    obtain ⟨k, p, hk, hj, hf, he, hra, hb, hkx⟩ := hrel
    have ck := hra.rk.cell (i := 0) (v := .int .i64 k) rfl
    have ccc := hra.rc.cell (i := 0) (v := .slice cA cs.length cc) rfl
    have cy := hra.ry.cell (i := 0) (v := .func (.yield yl) #[] #[]) rfl
    by_cases hlt : k < cs.length
    · obtain ⟨c, hc⟩ : ∃ c, cs[k]? = some c := ⟨_, List.getElem?_eq_getElem hlt⟩
      obtain ⟨A', c', hvv, _, _, hx⟩ := ComsAt.open_ (Rds.of_own hra.own)
      obtain ⟨rfl, rfl⟩ := (by simpa using hvv : cA = A' ∧ cc = c')
      obtain ⟨b, o, rfl, g1, g2, g3, g4⟩ := hx k c hc
      have k1 : (k : Int) < (cs.length : Int) := by omega
      have k2 : (0 : Int) ≤ (k : Int) := Int.natCast_nonneg _
      obtain ⟨b1, e1⟩ : ∃ b1, decide (at_ < 0) = b1 := ⟨_, rfl⟩
      obtain ⟨b2, e2⟩ : ∃ b2, decide ((c.2.1 : Int) < at_) = b2 := ⟨_, rfl⟩
      have HG : Hid (goesI at_ c = (b1 || b2)) := Lib.hid (by unfold goesI; rw [e1, e2])
      have HC := Lib.hid hc
      clear hx hvv hc
      cases b1 <;> cases b2
      · -- not ahead of it
        have q1 : full = p := by rw [hf, comI_stop HC.out HG.out, List.append_nil]
        have q2 : kend = k := by rw [he, comI_stop HC.out HG.out]; rfl
        clear hf he HF HK
        subst q1 q2
        gi_wp2
        go_ret
        exact .inl ⟨rfl, hj, hra, hk, hb, hkx⟩
      all_goals
        have HF2 : Hid (full = (p ++ [.inr k]) ++ comI at_ (k + 1) (cs.drop (k + 1))) := Lib.hid (by rw [hf, comI_go HC.out HG.out, List.append_assoc]; rfl)
        have HE2 : Hid (kend = (k + 1) + (comI at_ (k + 1) (cs.drop (k + 1))).length) := Lib.hid (by rw [he, comI_go HC.out HG.out, List.length_cons]; omega)
        have HPF : Hid (p ++ [.inr k] <+: items) := Lib.hid (List.IsPrefix.trans ⟨_, HF2.out.symm⟩ hpre)
        obtain ⟨fn, tmps, assign, body, hyy, hR⟩ := yield_two (hY p (.inr k) _ (ptoI hJ hj (Below.refl _ _).drew) HPF.out)
        dsimp only [encM, comP] at hyy
        clear hf he
        have HRA := Lib.hid (hra.below H (Below.refl _ _).drew)
        have HBB := Lib.hid hb
        have HKX := Lib.hid (hkx.trans (KeptX.grow H (Below.refl _ _).drew))
        have HCK := Lib.hid ck
        have hmo : Try.prog.follows .mixedOrders = true := by kernel_rfl
        clear hra hb hkx
        gi_wp2
        gi_region_with_o (refine hR.mono ?_; rintro e W' (⟨b', rfl, hb'⟩ | ⟨ch, rfl, hp⟩); rotate_left; (exact ⟨rfl, .inr (.inr ⟨ch, _, rfl, hp⟩)⟩))
        all_goals
          clear hyy hR ck ccc cy g1 g2 g3 g4
          rcases hb' with ⟨rfl, hJ', hk'⟩ | ⟨rfl, hJx'⟩
          · have hr2 := HRA.out.round H hk'
            have HB2 := Lib.hid ((HBB.out.drew).trans (H.old _ _ hk'))
            have HX2 := Lib.hid (HKX.out.trans (KeptX.round H hk'))
            have ck2 := hr2.rk.cell (i := 0) (v := .int .i64 k) rfl
            have cf2 := hr2.rk.free 0
            gi_wp2
            go_roundw
            case rel => exact ⟨k + 1, p ++ [.inr k], by omega, hJ _ _ _ hJ' (turn_set (T := (· = 3)) hr2.rk hBd rfl _), HF2.out, HE2.out, hr2.next hS hn1 hn2 (k + 1), below_set HB2.out hB0 _, HX2.out.trans (KeptX.set hS _)⟩
            case measure => rw [(hr2.rk.set 0 (.int .i64 ((k : Int) + 1))).cell (i := 0) (v := .int .i64 ((k : Int) + 1)) rfl, HCK.out]; simp [intOf]; omega
          · gi_wp2
            go_ret
            exact .inr (.inl ⟨rfl, _, hJx'⟩)
    · obtain rfl : k = cs.length := by omega
      have q1 : full = p := by rw [hf, comI_end, List.append_nil]
      have q2 : kend = cs.length := by rw [he, comI_end]; rfl
      clear hf he HF HK
      subst q1 q2
      gi_wp2
      go_ret
      exact .inl ⟨rfl, hj, hra, hk, hb, hkx⟩
end Go.Proofs.Ytignhjfobcnloaa
end
section
namespace Go.Proofs.Ytignhjfobcnloaa
open Go.RowKit
theorem mergeI_cons (w : TokD) (ws : List TokD) (k : Nat) (cs : List ComD) : mergeI (w :: ws) k (cs.drop k) = comI (w.2 : Nat) k (cs.drop k) ++ .inl w :: mergeI ws (k + (comI (w.2 : Nat) k (cs.drop k)).length) (cs.drop (k + (comI (w.2 : Nat) k (cs.drop k)).length)) := by
  conv => lhs; unfold mergeI
  rw [List.drop_drop]
attribute [local go_sem] Oper.semAt_some
set_option maxRecDepth 100000 in
set_option maxHeartbeats 4000000 in
theorem merged_seq (n : Nat) (h1 : 1 ≤ n) {ws : List TokD} {cs : List ComD} {wv cv : Value} {B0 base : Nat} {Kp : World → World → Prop} {G : World → Prop} {Sf : World → Nat → Prop} (H : Hands B0 Kp G Sf)
    (w : World) (CB WB : Nat) (rc : Row w CB 52 #[cv]) (rw_ : Row w WB 80 #[wv]) (sc : Sf w CB)
    (hc : w.ownsRow base 91 4 cv cs.length (cs.flatMap comCells)) (sco : ∀ g, cv.ownBlock = some g → Sf w g) (hw : w.ownsRow base 86 2 wv ws.length (ws.flatMap tokCells)) (swo : ∀ g, wv.ownBlock = some g → Sf w g)
    (hS : ∀ W K g u, w.heap.size ≤ K → Sf W g → Sf (W.setCell ⟨K, 0, none⟩ u) g) (hz : ∀ t ∈ ws, t.2 ≤ 1000000000) (hwl : ws.length ≤ 1000000000) (hcl : cs.length ≤ 1000000000) (hB0 : B0 ≤ w.heap.size) :
    SeqP n Try.prog 121 #[.pointer (some ⟨CB, 0, none⟩), .pointer (some ⟨WB, 0, none⟩)] (encM cv) Kp G (· = 3) (mergeI ws 0 cs) w := by
  intro yl J Jx Jp W hW hJ hJx hG hY hJ0
  have hz0 := hW.size
  have hCB := rc.lt
  have hWB := rw_.lt
  have rw' := rw_.below hW rw_.lt
  obtain ⟨wA, wc, rfl, hwc⟩ := own_form hw
  have HY := Lib.hid hY
  have HZ := Lib.hid hz
  have hra0 : Hid (∀ (W' : World) (KB YB : Nat), Below W.heap.size W W' → Row W' KB 3 #[.int .i64 0] → Row W' YB 212 #[.func (.yield yl) #[] #[]] → W.heap.size ≤ KB → W.heap.size ≤ YB → RestAt cs cv yl KB CB YB base Sf 0 W') := Lib.hid (fun W' KB YB hb rk ry h1 h2 =>
    ⟨rk, (rc.below hW rc.lt).below hb (rc.below hW rc.lt).lt, ry, H.new W W' _ (hG _ _ hJ0) hb h1 rk.lt, H.grow _ _ _ (H.grow _ _ _ sc hW) hb, H.new W W' _ (hG _ _ hJ0) hb h2 ry.lt, own_below (own_below hc hW) hb, fun g e => H.grow _ _ _ (H.grow _ _ _ (sco g e) hW) hb⟩)
  have hw2 := own_below hw hW
  have sw2 : ∀ g, (Value.slice wA ws.length wc).ownBlock = some g → Sf W g := fun g e => H.grow _ _ _ (swo g e) hW
  have hcv : ∀ g, (Value.slice wA ws.length wc).ownBlock = some g → g < w.heap.size := fun g e => (hw.lt g e).2
  have cw := rw'.cell (i := 0) (v := .slice wA ws.length wc) rfl
  clear hY hz hc rc rw_ sc sco hw swo
  show CallsIn Fence.wide n Try.prog 121 #[.func (.yield yl) #[] #[], .pointer (some ⟨CB, 0, none⟩), .pointer (some ⟨WB, 0, none⟩)] W _
  refine callsIn_of_wp Try.func121 rfl trivial ?_ rfl
  simp only [Try.ntmps121, List.size_toArray, List.length_cons, List.length_nil, Nat.reduceAdd, Nat.reduceSub, Array.replicate_succ, Array.replicate_zero, List.push_toArray, List.append_toArray, List.nil_append, List.cons_append]
  have hWB2 : WB < W.heap.size := Nat.lt_of_lt_of_le hWB hz0
  gi_wp2
  obtain ⟨W2, hW2⟩ : ∃ W2, W2 = (W.alloc (.cells #[.func (.yield yl) #[] #[]] 212)).alloc (.cells #[.int .i64 0] 3) := ⟨_, rfl⟩
  rw [← hW2]
  have hbW2 : Below W.heap.size W W2 := by rw [hW2]; exact new_ (new_ (Below.refl _ _) _) _
  have hra := hra0.out W2 (W.heap.size + 1) W.heap.size hbW2 (by rw [hW2]; exact Row.new' _ _ _ (by simp)) (by rw [hW2]; exact (Row.new _ _ _).alloc _) (by omega) (Nat.le_refl _)
  have hj2 := ptoI hJ hJ0 hbW2
  have hw3 := own_below hw2 hbW2
  have sw3 : ∀ g, (Value.slice wA ws.length wc).ownBlock = some g → Sf W2 g := fun g e => H.grow _ _ _ (sw2 g e) hbW2
  have hS2 : Hid (∀ (X : World) (g : Nat) (u : Value), Sf X g → Sf (X.setCell ⟨W.heap.size + 1, 0, none⟩ u) g) := Lib.hid (fun X g u h => hS X _ g u (by omega) h)
  have hsz2 := hbW2.size
  have hn1 : W.heap.size + 1 ≠ CB := by omega
  have hn2 : W.heap.size + 1 ≠ W.heap.size := by omega
  have hB2 : B0 ≤ W.heap.size + 1 := by omega
  have hBd : W.heap.size ≤ W.heap.size + 1 := by omega
  have hcv2 : ∀ g, (Value.slice wA ws.length wc).ownBlock = some g → g ≠ W.heap.size + 1 := fun g e => by have := hcv g e; omega
  clear hW2 hbW2 cw rw' hra0 hw2 sw2 hJ0 hW hcv hCB hWB hWB2 hz0 hS
  generalize W.heap.size + 1 = KB at *
  generalize hYB : W.heap.size = YB at *
  clear hYB
  gi_loopw [11] (fun iv wr => ∃ (i k : Nat) (p : List PieceI), i ≤ ws.length ∧ iv = .int .i64 i ∧ J p wr ∧ mergeI ws 0 cs = p ++ mergeI (ws.drop i) k (cs.drop k) ∧ k ≤ cs.length ∧ RestAt cs cv yl KB CB YB base Sf k wr ∧ wr.ownsRow base 86 2 (.slice wA ws.length wc) ws.length (ws.flatMap tokCells) ∧ (∀ g, (Value.slice wA ws.length wc).ownBlock = some g → Sf wr g)) (fun iv _ => ws.length - (intOf iv).toNat)
  case atStart => exact ⟨0, 0, [], Nat.zero_le _, rfl, hj2, rfl, Nat.zero_le _, hra, hw3, sw3⟩
  case round =>
    obtain ⟨i, k, p, hi, rfl, hj, hit, hk, hra, hw, sw⟩ := hrel
    by_cases hlt : i < ws.length
    · obtain ⟨t, ht⟩ : ∃ t, ws[i]? = some t := ⟨_, List.getElem?_eq_getElem hlt⟩
      obtain ⟨A', c', hvv, _, _, hx⟩ := ToksAt.open_ (Rds.of_own hw)
      obtain ⟨rfl, rfl⟩ := (by simpa using hvv : wA = A' ∧ wc = c')
      obtain ⟨b, o, rfl, g1, g2⟩ := hx i t ht
      have hd : ws.drop i = t :: ws.drop (i + 1) := by obtain ⟨h, e⟩ := List.getElem?_eq_some_iff.1 ht; rw [List.drop_eq_getElem_cons h, e]
      rw [hd, mergeI_cons] at hit
      have htz := HZ.out t (List.mem_of_getElem? ht)
      obtain ⟨full, hfull⟩ : ∃ full, full = p ++ comI (t.2 : Nat) k (cs.drop k) := ⟨_, rfl⟩
      obtain ⟨kend, hkend⟩ : ∃ kend, kend = k + (comI (t.2 : Nat) k (cs.drop k)).length := ⟨_, rfl⟩
      have HIT : Hid (mergeI ws 0 cs = full ++ [.inl t] ++ mergeI (ws.drop (i + 1)) kend (cs.drop kend)) := Lib.hid (by rw [hit, hfull, hkend]; simp)
      have HPF : Hid (full <+: mergeI ws 0 cs) := Lib.hid (by rw [HIT.out, List.append_assoc]; exact ⟨_, rfl⟩)
      have HPG : Hid (full ++ [.inl t] <+: mergeI ws 0 cs) := Lib.hid (by rw [HIT.out]; exact ⟨_, rfl⟩)
      have HFU := Lib.hid hfull
      have HKE := Lib.hid hkend
      have hb1 : Below wr.heap.size wr (wr.alloc (.cells #[.string ⟨t.1.toArray⟩, .int .i64 (t.2 : Nat)] 86)) := new_ (Below.refl _ _) _
      have q7 : Row (wr.alloc (.cells #[.string ⟨t.1.toArray⟩, .int .i64 (t.2 : Nat)] 86)) wr.heap.size 86 #[.string ⟨t.1.toArray⟩, .int .i64 (t.2 : Nat)] := Row.new _ _ _
      have s7 : Sf (wr.alloc (.cells #[.string ⟨t.1.toArray⟩, .int .i64 (t.2 : Nat)] 86)) wr.heap.size := H.new wr _ _ (hG _ _ hj) hb1 (Nat.le_refl _) (by simp)
      have hra1 := hra.below H hb1
      have hw1 := own_below hw hb1
      have sw1 : ∀ g, (Value.slice (some ⟨b, o, none⟩) ws.length wc).ownBlock = some g → Sf (wr.alloc (.cells #[.string ⟨t.1.toArray⟩, .int .i64 (t.2 : Nat)] 86)) g := fun g e => H.grow _ _ _ (sw g e) hb1
      have hj1 := ptoI hJ hj hb1
      have hg7 : wr.heap.size ≠ KB := by have := hra.rk.lt; omega
      have i0 : (0 : Int) ≤ (i : Int) := Int.natCast_nonneg _
      have i1 : (i : Int) < (ws.length : Int) := by omega
      clear hx hvv ht hd hit hfull hkend hra hw sw hj hb1
      gi_wp2
      refine ⟨trivial, ?_⟩
      refine (callsIn_wide.2 (callsIn_wide.1 (rest_seq 1 (Nat.le_refl _) H (items := mergeI ws 0 cs) yl J Jx Jp YB hJ hG (fun pre x W1 hj hp => yield_n (HY.out pre x W1 hj hp)) _ KB CB YB (t.2 : Nat) k p full HFU.out kend HKE.out HPF.out hj1 hk hBd hra1 hS2.out ⟨by omega, by omega⟩ hn1 hn2 hcl hB2))).mono ?_
      rintro e W' (⟨rfl, hj', hra', hke, hbb, hkx⟩ | ⟨rfl, p', hJx'⟩ | ⟨ch, p', rfl, hp⟩)
      · have q7' := hkx.row hg7 s7 q7
        have hw' := hkx.own hcv2 sw1 hw1
        have sw' : ∀ g, (Value.slice (some ⟨b, o, none⟩) ws.length wc).ownBlock = some g → Sf W' g := fun g e => (hkx g (hcv2 g e) (sw1 g e)).1
        have c70 := q7'.cell (i := 0) (v := .string ⟨t.1.toArray⟩) rfl
        have c71 := q7'.cell (i := 1) (v := .int .i64 (t.2 : Nat)) rfl
        have cy := hra'.ry.cell (i := 0) (v := .func (.yield yl) #[] #[]) rfl
        obtain ⟨fn, tmps, assign, body, hyy, hR⟩ := yield_two (HY.out full (.inl t) W' hj' HPG.out)
        dsimp only [encM] at hyy
        clear hra1 hw1 sw1 hj1 q7 s7 hkx hj' hbb q7' hk
        gi_wp2
        refine hR.mono ?_
        rintro e W3 (⟨b', rfl, hb'⟩ | ⟨ch, rfl, hp⟩)
        · clear hyy hR c70 c71 cy
          rcases hb' with ⟨rfl, hJ', hk'⟩ | ⟨rfl, hJx'⟩
          · have hra3 := hra'.round H hk'
            have hw4 := H.own hk' sw' hw'
            have sw4 : ∀ g, (Value.slice (some ⟨b, o, none⟩) ws.length wc).ownBlock = some g → Sf W3 g := fun g e => (H.kept _ _ _ hk' (sw' g e)).1
            clear hra' hw' sw' hk'
            gi_wp2
            go_roundw
            case rel => exact ⟨i + 1, kend, full ++ [.inl t], by omega, by go_num, hJ', HIT.out, hke, hra3, hw4, sw4⟩
            case measure => simp [intOf]; omega
          · gi_wp2
            refine bodyPost_ret (results_none rfl _ _ _) rfl ?_
            exact .inl ⟨⟨_, rfl⟩, .inr ⟨_, hJx'⟩⟩
        · exact ⟨rfl, .inr ⟨ch, _, rfl, hp⟩⟩
      · clear hra1 hw1 sw1 hj1 q7 s7
        gi_wp2
        refine ⟨fun _ h => (by cases h), ?_⟩
        gi_wp2
        refine bodyPost_ret (results_none rfl _ _ _) rfl ?_
        exact .inl ⟨⟨_, rfl⟩, .inr ⟨_, hJx'⟩⟩
      · exact ⟨rfl, .inr ⟨ch, _, rfl, hp⟩⟩
    · obtain rfl : i = ws.length := by omega
      rw [List.drop_length] at hit
      have HIT : Hid (mergeI ws 0 cs = p ++ comI (-1) k (cs.drop k)) := Lib.hid hit
      clear hit
      gi_wp2
      refine ⟨trivial, ?_⟩
      refine (callsIn_wide.2 (callsIn_wide.1 (rest_seq 1 (Nat.le_refl _) H (items := mergeI ws 0 cs) yl J Jx Jp YB hJ hG (fun pre x W1 hj hp => yield_n (HY.out pre x W1 hj hp)) _ KB CB YB (-1) k p _ HIT.out _ rfl (List.prefix_refl _) hj hk hBd hra hS2.out ⟨by omega, by omega⟩ hn1 hn2 hcl hB2))).mono ?_
      rintro e W' (⟨rfl, hj', hra', hke, hbb, hkx⟩ | ⟨rfl, p', hJx'⟩ | ⟨ch, p', rfl, hp⟩)
      · clear hra hw sw hj hra' hke hbb hkx
        gi_wp2
        go_end0
        exact .inl ⟨⟨_, rfl⟩, .inl hj'⟩
      · clear hra hw sw hj
        gi_wp2
        go_end0
        exact .inl ⟨⟨_, rfl⟩, .inr ⟨_, hJx'⟩⟩
      · exact ⟨rfl, .inr ⟨ch, _, rfl, hp⟩⟩
end Go.Proofs.Ytignhjfobcnloaa
end
