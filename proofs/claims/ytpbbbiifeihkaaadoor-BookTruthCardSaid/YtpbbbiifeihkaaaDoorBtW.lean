/- BookTruth: the map of what each event was last told to be. -/
import Derived.Test.YtpbbbiifeihkaaaDoorBtP
import Derived.Test.YtpbbbiifeihkaaaDoorBkZ
import Derived.Test.YtpbbbiifeihkaaaDoorBkB
namespace Go.Proofs.YtpbbbiifeihkaaaDoor
open Go.RowKit
open Go.Maps (Keyed)
set_option linter.unusedVariables false

theorem MV.blk {P : Program} {k : TypeId} {z : Value} {w w' : World} {b : Nat} {ks : List Lit} {f : Lit → Value} (h : MV P k z w b ks f) (hb : w'.heap[b]? = w.heap[b]?) : MV P k z w' b ks f := by
  obtain ⟨⟨D, ⟨es, clock, h1, h2⟩, h3⟩, h4, h5⟩ := h
  exact ⟨⟨D, ⟨es, clock, hb.trans h1, h2⟩, h3⟩, h4, h5⟩
theorem MV.isMap {P : Program} {k : TypeId} {z : Value} {w : World} {b : Nat} {ks : List Lit} {f : Lit → Value} (h : MV P k z w b ks f) : ∃ es c, w.heap[b]? = some (.map es c) := by
  obtain ⟨⟨D, ⟨es, clock, h1, h2⟩, h3⟩, h4, h5⟩ := h
  exact ⟨es, clock, h1⟩
theorem MV.ch {P : Program} {k : TypeId} {z : Value} {w w' : World} {b B : Nat} {ks : List Lit} {f : Lit → Value} (h : MV P k z w b ks f) (hc : Ch B w w') (hB : b ≠ B) : MV P k z w' b ks f := by
  obtain ⟨es, c, e⟩ := h.isMap
  exact h.blk ((hc.block b _ e hB (fun cur fz => nofun)).trans e.symm)
/-- The book, where a map has grown. -/
theorem bkW_map {w w' : World} {B bm : Nat} {b : Bk} (h : BkW w B b) (hm : ∃ es c, w.heap[bm]? = some (.map es c)) (hg : w.grownBy w' (some bm)) : BkW w' B b := by
  have hl := h.lt
  obtain ⟨es, c, hm⟩ := hm
  have hne : some B ≠ some bm := by
    intro e
    cases e
    obtain ⟨cur, t, fz, h1, -⟩ := h.nt
    rw [h1] at hm
    cases hm
  have hblk := hg.block B hl hne
  refine ⟨?_, ?_, fun j => ?_, ?_, ?_⟩
  · have := h.c1; simp only [World.cell?] at this ⊢; rw [hblk]; exact this
  · have := h.c2; simp only [World.cell?] at this ⊢; rw [hblk]; exact this
  · have := h.fz j; simp only [World.frozen?] at this ⊢; rw [hblk]; exact this
  · obtain ⟨v, hv, hr⟩ := h.row
    refine ⟨v, by simp only [World.cell?] at hv ⊢; rw [hblk]; exact hv, hr.kept hg ?_⟩
    rcases hr.2 with ⟨rfl, h0⟩ | ⟨g, cap, cur, rfl, hgb, hc, -⟩
    · exact .inl rfl
    · refine .inr (fun e => ?_)
      have : g = bm := by simpa [Value.ownBlock] using e
      subst this
      rw [hc] at hm
      cases hm
  · obtain ⟨cur, t', fz, h1, h2⟩ := h.nt
    exact ⟨cur, t', fz, hblk.trans h1, h2⟩
/-- Block bm is the map of what each event was last told to be: g at the numbers from 1 to n. -/
def LastW (w : World) (bm : Nat) (n : Int) (g : Int → Evt) (q : Nat) : Prop :=
  ∃ ks f, MV Tryd.prog 3 evZ.agg w bm ks f ∧ (∀ y, y ∈ ks ↔ ∃ k : Int, 1 ≤ k ∧ k ≤ n ∧ y = litI k) ∧ (∀ k : Int, 1 ≤ k → k ≤ n → f (litI k) = (g k).agg) ∧ ks.length ≤ q
theorem LastW.start (w : World) (g : Int → Evt) : LastW (w.alloc (.map #[] 0)) w.heap.size 0 g 0 :=
  ⟨[], _, MV.made _ _ _ _, fun y => ⟨fun h => (by cases h), fun ⟨k, h1, h2, _⟩ => by omega⟩, fun k h1 h2 => by omega, Nat.le_refl _⟩
theorem LastW.below {w w' : World} {bm q : Nat} {n : Int} {g : Int → Evt} (h : LastW w bm n g q) (hb : Below w.heap.size w w') : LastW w' bm n g q := by
  obtain ⟨ks, f, h1, h2⟩ := h
  exact ⟨ks, f, h1.below hb, h2⟩
theorem LastW.ch {w w' : World} {bm q B : Nat} {n : Int} {g : Int → Evt} (h : LastW w bm n g q) (hc : Ch B w w') (hB : bm ≠ B) : LastW w' bm n g q := by
  obtain ⟨ks, f, h1, h2⟩ := h
  exact ⟨ks, f, h1.ch hc hB, h2⟩
theorem LastW.up {w : World} {bm q q' : Nat} {n : Int} {g : Int → Evt} (h : LastW w bm n g q) (hq : q ≤ q') : LastW w bm n g q' := by
  obtain ⟨ks, f, h1, h2, h3, h4⟩ := h
  exact ⟨ks, f, h1, h2, h3, Nat.le_trans h4 hq⟩
/-- One is told anew. -/
theorem last_set {w' : World} {bm q : Nat} {n n' k : Int} {g : Int → Evt} {ks : List Lit} {f : Lit → Value} {e : Evt} {u : Value} (h : MV Tryd.prog 3 evZ.agg w' bm (addK ks (litI k)) (upd f (litI k) u)) (hu : u = e.agg)
    (h2 : ∀ y, y ∈ ks ↔ ∃ k : Int, 1 ≤ k ∧ k ≤ n ∧ y = litI k) (h3 : ∀ k : Int, 1 ≤ k → k ≤ n → f (litI k) = (g k).agg) (h4 : ks.length ≤ q) (hk : 1 ≤ k) (hn : (k = n + 1 ∧ n' = n + 1) ∨ (k ≤ n ∧ n' = n)) : LastW w' bm n' (updE g k e) (q + 1) := by
  refine ⟨_, _, h, fun y => ?_, fun j h5 h6 => ?_, Nat.le_trans (addK_len _ _) (by omega)⟩
  · rw [mem_addK, h2]
    constructor
    · rintro (⟨j, h5, h6, rfl⟩ | rfl)
      · exact ⟨j, h5, by omega, rfl⟩
      · exact ⟨k, hk, by omega, rfl⟩
    · rintro ⟨j, h5, h6, rfl⟩
      by_cases e : j = k
      · exact .inr (by rw [e])
      · exact .inl ⟨j, h5, by omega, rfl⟩
  · by_cases e : j = k
    · subst e
      rw [upd_same, updE_same, hu]
    · rw [upd_other _ _ (fun h => by injection h with _ h; exact e h), updE_other _ _ e]
      exact h3 j h5 (by omega)
/-- What one act that is done comes to. -/
theorem act_cases {b : Bk} {x : ActV} (hI : BkI b) (h : (b.act x).2 = none) (g : Int → Evt) :
    (x.what = 0 ∧ (b.act x).1.next = b.next + 1 ∧ lastE b g x = updE g (b.next + 1) (x.e.num (b.next + 1))) ∨
    (x.what = 1 ∧ (b.act x).1.next = b.next ∧ 1 ≤ x.id ∧ x.id ≤ b.next ∧ lastE b g x = updE g x.id (x.e.num x.id)) ∨
    (x.what = 2 ∧ (b.act x).1.next = b.next ∧ 1 ≤ x.id ∧ x.id ≤ b.next ∧ lastE b g x = updE g x.id evZ) := by
  have lv : ∀ m, b.live x.id = some m → 1 ≤ x.id ∧ x.id ≤ b.next := by
    intro m hm
    obtain ⟨hml, hlive, -⟩ := live_spec hm
    simp only [isLive, Bool.and_eq_true, beq_iff_eq] at hlive
    obtain ⟨-, -, -, h4, h5, -⟩ := hI.ok _ (List.getElem_mem hml)
    rw [hlive.1] at h4 h5
    exact ⟨h4, h5⟩
  have hl : lastE b g x = if x.what = 0 then updE g (b.next + 1) (x.e.num (b.next + 1)) else if x.what = 1 then updE g x.id (x.e.num x.id) else updE g x.id evZ := by
    unfold lastE
    rw [if_pos h]
  rw [hl]
  unfold Bk.act at h ⊢
  by_cases e0 : x.what = 0
  · rw [if_pos e0] at h ⊢
    rw [if_pos e0]
    refine .inl ⟨e0, ?_, rfl⟩
    simp only at h ⊢
    unfold Bk.post at h ⊢
    by_cases hr : x.e.right = true
    · rw [if_pos hr] at h ⊢
      by_cases hl : 120 ≤ b.l.length
      · rw [if_pos hl] at h; exact absurd h (by simp)
      · rw [if_neg hl]; rfl
    · rw [if_neg hr] at h; exact absurd h (by simp)
  · rw [if_neg e0] at h ⊢
    rw [if_neg e0]
    by_cases e1 : x.what = 1
    · rw [if_pos e1] at h ⊢
      rw [if_pos e1]
      unfold Bk.correct at h ⊢
      cases hm : b.live x.id with
      | none => rw [hm] at h; exact absurd h (by simp)
      | some m =>
        rw [hm] at h
        simp only at h ⊢
        obtain ⟨l1, l2⟩ := lv m hm
        by_cases hr : x.e.right = true
        · rw [if_pos hr] at h ⊢
          by_cases hl : 120 ≤ b.l.length
          · rw [if_pos hl] at h; exact absurd h (by simp)
          · rw [if_neg hl]; exact .inr (.inl ⟨e1, by first | rfl | trivial, l1, l2, by first | rfl | trivial⟩)
        · rw [if_neg hr] at h; exact absurd h (by simp)
    · rw [if_neg e1] at h ⊢
      rw [if_neg e1]
      by_cases e2 : x.what = 2
      · rw [if_pos e2] at h ⊢
        unfold Bk.void at h ⊢
        cases hm : b.live x.id with
        | none => rw [hm] at h; exact absurd h (by simp)
        | some m =>
          obtain ⟨l1, l2⟩ := lv m hm
          exact .inr (.inr ⟨e2, by first | rfl | trivial, l1, l2, by first | rfl | trivial⟩)
      · rw [if_neg e2] at h; exact absurd h (by simp)
theorem last_none {b : Bk} {x : ActV} {z : Int} (h : (b.act x).2 = some z) (g : Int → Evt) : (b.act x).1 = b ∧ lastE b g x = g := by
  rcases act_turn b x with ⟨h1, -⟩ | ⟨h1, h2⟩
  · rw [h] at h1; cases h1
  · refine ⟨h2, ?_⟩
    unfold lastE
    rw [if_neg h1]
theorem own_ne {w : World} {base e size n k : Nat} {v : Value} {xs : List Value} (h : w.ownsRow base e size v n xs) (hk : k < base) : some k ≠ v.ownBlock := by
  rcases h.2 with ⟨rfl, -⟩ | ⟨g, cap, cur, rfl, hgb, -⟩
  · simp [Value.ownBlock]
  · simp only [Value.ownBlock]; intro e; cases e; omega
theorem own_gb {w w' : World} {base e size n r : Nat} {v : Value} {xs : List Value} (h : w.ownsRow base e size v n xs) (hg : w.grownBy w' (some r)) (hr : r < base) : w'.ownsRow base e size v n xs := by
  refine h.kept hg ?_
  rcases h.2 with ⟨rfl, h0⟩ | ⟨g, cap, cu, rfl, hb, hc, -⟩
  · exact .inl rfl
  · refine .inr (fun e => ?_)
    have : g = r := by simpa [Value.ownBlock] using e
    omega
theorem left_blk {w w' : World} {b r : Nat} (h1 : w'.heap[b]? = w.heap[b]?) (h2 : w'.heap[r]? = w.heap[r]?) : w'.rangeLeft b r = w.rangeLeft b r := by
  unfold World.rangeLeft
  rw [h1, h2]
theorem cells_at {w : World} {b : Nat} {cs : List Value} {t : TypeId} {fz : Nat × Nat} (h : w.heap[b]? = some (.cells cs.toArray t fz)) : ∀ j u, cs[j]? = some u → w.cell? ((⟨b, 0, none⟩ : Addr).add j) = some u := by
  intro j u hj
  have e : (⟨b, 0, none⟩ : Addr).add j = ⟨b, j, none⟩ := by simp [Addr.add]; omega
  rw [e]
  simp only [World.cell?, h]
  simpa using hj
/-- The keys of the map, in whichever order they came. -/
theorem keys_perm {n : Int} {ks : List Lit} {done : List Int} (hnd : ks.Nodup) (h2 : ∀ y, y ∈ ks ↔ ∃ k : Int, 1 ≤ k ∧ k ≤ n ∧ y = litI k) (hp : (done.map litI).Perm ks) : done.Perm (keysZ n) := by
  have h3 : ks.Perm ((keysZ n).map litI) := by
    refine (List.perm_ext_iff_of_nodup hnd ?_).2 fun y => ?_
    · unfold List.Nodup
      rw [List.pairwise_map]
      exact List.Pairwise.imp (fun h e => h (by injection e)) (nodup_keysZ n)
    · rw [h2, List.mem_map]
      constructor
      · rintro ⟨k, h3, h4, rfl⟩; exact ⟨k, (mem_keysZ _ _).2 ⟨h3, h4⟩, rfl⟩
      · rintro ⟨k, h3, rfl⟩
        obtain ⟨h4, h5⟩ := (mem_keysZ _ _).1 h3
        exact ⟨k, h4, h5, rfl⟩
  have h4 := (hp.trans h3).map (fun y => match y with | .int _ k => k | _ => 0)
  rw [List.map_map, List.map_map] at h4
  have e1 : ∀ l : List Int, l.map ((fun y : Lit => match y with | .int _ k => k | _ => 0) ∘ litI) = l := fun l => by
    induction l with
    | nil => rfl
    | cons x l ih => rw [List.map_cons, ih]; rfl
  rw [e1, e1] at h4
  exact h4
end Go.Proofs.YtpbbbiifeihkaaaDoor
