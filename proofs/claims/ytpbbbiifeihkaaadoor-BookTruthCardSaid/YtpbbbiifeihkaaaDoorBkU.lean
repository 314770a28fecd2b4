/- Stores into a book's own cells. -/
import Derived.Test.YtpbbbiifeihkaaaDoorBkX
import Derived.Deep.RegionWith
namespace Go.Proofs.YtpbbbiifeihkaaaDoor
open Go.RowKit
set_option linter.unusedVariables false

theorem region_cutS {P : Program} {c : Code} {a : Act} {w : World} {Q : Exit → Act → World → Prop} {T : Option Addr → Nat → Act} (F : World → Prop) (h : c.wp P (fun e a' w' => e = .normal ∧ ∃ vx vy, a' = T vx vy ∧ F w') a w) (hq : ∀ vx vy w', F w' → Q .normal (T vx vy) w') : c.wp P Q a w :=
  wp_mono h fun e a' w' ⟨he, vx, vy, ha, hf⟩ => by subst he; subst ha; exact hq vx vy w' hf
theorem cell_set {w : World} {B j : Nat} {u : Value} (j' : Nat) (hs : ∃ v, w.cell? ⟨B, j, none⟩ = some v) : (w.setCell ⟨B, j, none⟩ u).cell? ⟨B, j', none⟩ = if j' = j then some u else w.cell? ⟨B, j', none⟩ := by
  by_cases h : j' = j
  · subst h
    rw [if_pos rfl]
    exact World.cell?_setCell_same' _ _ _ (by obtain ⟨v, hv⟩ := hs; rw [hv]; rfl)
  · rw [if_neg h]
    exact World.cell?_setCell_other w ⟨B, j, none⟩ ⟨B, j', none⟩ u (by simp)
theorem set_gb (w : World) (B j : Nat) (u : Value) : w.grownBy (w.setCell ⟨B, j, none⟩ u) (some B) :=
  ⟨rfl, rfl, rfl, by simp, fun k _ hk => mid_heap w B j k u (fun e => hk (by rw [e]))⟩
theorem ch_set {w : World} {B j : Nat} (u : Value) (hj : j < 3) (hs : ∃ v, w.cell? ⟨B, j, none⟩ = some v) : Ch B w (w.setCell ⟨B, j, none⟩ u) :=
  ⟨rfl, rfl, rfl, by simp, fun k o h1 h2 _ => (mid_heap w B j k u h2).trans h1, fun o ho => by rw [cell_set o hs, if_neg (by omega)], fun o => by rw [World.frozen?_setCell], fun k hk => mid_heap w B j k u (by omega)⟩
theorem nt_set {w : World} {B j : Nat} (u : Value) (h : ∃ cur t fz, w.heap[B]? = some (.cells cur t fz) ∧ t ≠ 54) : ∃ cur t fz, (w.setCell ⟨B, j, none⟩ u).heap[B]? = some (.cells cur t fz) ∧ t ≠ 54 := by
  obtain ⟨cur, t, fz, e1, e2⟩ := h
  exact ⟨_, t, fz, mid_self u e1, e2⟩
theorem write_fin {W1 w13 : World} {B : Nat} {l : List Ver} {t n : Int} {x : Ver} {v' : Value} (h1 : BkW W1 B ⟨l, t, n⟩) (hb : Below W1.heap.size W1 w13) (ho : w13.ownsRow (B + 1) 54 9 v' (l.length + 1) (flV (l ++ [x]))) :
    BkW (w13.setCell ⟨B, 0, none⟩ v') B ⟨l ++ [x], t, n⟩ ∧ Ch B W1 (w13.setCell ⟨B, 0, none⟩ v') := by
  have h2 := h1.below hb
  obtain ⟨v0, c0, -⟩ := h2.row
  have hs : ∃ v, w13.cell? ⟨B, 0, none⟩ = some v := ⟨_, c0⟩
  refine ⟨⟨?_, ?_, fun j => by rw [World.frozen?_setCell]; exact h2.fz j, ⟨v', by rw [cell_set 0 hs, if_pos rfl], ?_⟩, nt_set _ h2.nt⟩, (Ch.of_below hb h1.lt).trans (ch_set _ (by omega) hs)⟩
  · rw [cell_set 1 hs, if_neg (by omega)]; exact h2.c1
  · rw [cell_set 2 hs, if_neg (by omega)]; exact h2.c2
  · rw [List.length_append]
    refine ho.kept (set_gb w13 B 0 v') ?_
    rcases ho.2 with ⟨rfl, h0⟩ | ⟨g, cap, cur, rfl, hg, -⟩
    · exact .inl rfl
    · refine .inr (fun e => ?_)
      have : g = B := by simpa [Value.ownBlock] using e
      omega
theorem BkW.setTurn {w : World} {B : Nat} {b : Bk} (h : BkW w B b) (t : Int) : BkW (w.setCell ⟨B, 1, none⟩ (.int .i64 t)) B ⟨b.l, t, b.next⟩ ∧ Ch B w (w.setCell ⟨B, 1, none⟩ (.int .i64 t)) := by
  obtain ⟨v, c0, ho⟩ := h.row
  have hs : ∃ v, w.cell? ⟨B, 1, none⟩ = some v := ⟨_, h.c1⟩
  refine ⟨⟨by rw [cell_set 1 hs, if_pos rfl], by rw [cell_set 2 hs, if_neg (by omega)]; exact h.c2, fun j => by rw [World.frozen?_setCell]; exact h.fz j, ⟨v, by rw [cell_set 0 hs, if_neg (by omega)]; exact c0, ?_⟩, nt_set _ h.nt⟩, ch_set _ (by omega) hs⟩
  refine ho.kept (set_gb w B 1 _) ?_
  rcases ho.2 with ⟨rfl, h0⟩ | ⟨g, cap, cur, rfl, hg, -⟩
  · exact .inl rfl
  · refine .inr (fun e => ?_)
    have : g = B := by simpa [Value.ownBlock] using e
    omega
theorem row_set {w : World} {B X j n : Nat} {v : Value} {l : List Ver} (u : Value) (nt : ∃ cur t fz, w.heap[X]? = some (.cells cur t fz) ∧ t ≠ 54) (ho : w.ownsRow B 54 9 v n (flV l)) :
    (w.setCell ⟨X, j, none⟩ u).ownsRow B 54 9 v n (flV l) := by
  refine ho.kept (set_gb w X j u) ?_
  rcases ho.2 with ⟨rfl, h0⟩ | ⟨g, cap, cur, rfl, hg, hc, -⟩
  · exact .inl rfl
  · refine .inr (fun e => ?_)
    have : g = X := by simpa [Value.ownBlock] using e
    subst this
    obtain ⟨cur', t, fz, e1, e2⟩ := nt
    rw [hc] at e1
    injection e1 with e1
    injection e1 with _ e1
    exact e2 e1.symm
theorem BkW.setNext {w : World} {B : Nat} {b : Bk} (h : BkW w B b) (t : Int) : BkW (w.setCell ⟨B, 2, none⟩ (.int .i64 t)) B ⟨b.l, b.turn, t⟩ ∧ Ch B w (w.setCell ⟨B, 2, none⟩ (.int .i64 t)) := by
  obtain ⟨v, c0, ho⟩ := h.row
  have hs : ∃ v, w.cell? ⟨B, 2, none⟩ = some v := ⟨_, h.c2⟩
  exact ⟨⟨by rw [cell_set 1 hs, if_neg (by omega)]; exact h.c1, by rw [cell_set 2 hs, if_pos rfl], fun j => by rw [World.frozen?_setCell]; exact h.fz j, ⟨v, by rw [cell_set 0 hs, if_neg (by omega)]; exact c0, row_set _ h.nt ho⟩, nt_set _ h.nt⟩, ch_set _ (by omega) hs⟩
/-- A store into a block that is none of the book's. -/
theorem BkW.setOther {w : World} {B X j : Nat} {b : Bk} (u : Value) (h : BkW w B b) (hX : X ≠ B) (nt : ∃ cur t fz, w.heap[X]? = some (.cells cur t fz) ∧ t ≠ 54) : BkW (w.setCell ⟨X, j, none⟩ u) B b := by
  obtain ⟨v, c0, ho⟩ := h.row
  have ho2 : ∀ k, (w.setCell ⟨X, j, none⟩ u).cell? ⟨B, k, none⟩ = w.cell? ⟨B, k, none⟩ := fun k => World.cell?_setCell_other w ⟨X, j, none⟩ ⟨B, k, none⟩ u (by simp)
  refine ⟨(ho2 1).trans h.c1, (ho2 2).trans h.c2, fun k => by rw [World.frozen?_setCell]; exact h.fz k, ⟨v, (ho2 0).trans c0, row_set _ nt ho⟩, ?_⟩
  obtain ⟨cur, t, fz, e1, e2⟩ := h.nt
  exact ⟨cur, t, fz, (mid_heap w X j B u (Ne.symm hX)).trans e1, e2⟩
/-- Stores into blocks of the call's own turn nothing. -/
theorem Ch.fresh {B X j : Nat} {a b : World} (u : Value) (h : Ch B a b) (hX : a.heap.size ≤ X) (hB : B < a.heap.size) : Ch B a (b.setCell ⟨X, j, none⟩ u) :=
  ⟨h.os, h.tape, h.output, by simpa using h.size, fun k o h1 h2 h3 => (mid_heap b X j k u (by have := (Array.getElem?_eq_some_iff.1 h1).1; omega)).trans (h.block k o h1 h2 h3), fun o ho => (World.cell?_setCell_other b ⟨X, j, none⟩ ⟨B, o, none⟩ u (by simp)).trans (h.far o ho), fun o => by rw [World.frozen?_setCell]; exact h.frz o, fun k hk => (mid_heap b X j k u (by omega)).trans (h.low k hk)⟩
theorem flV_set (l : List Ver) (k : Nat) (t : Int) : (flV l).set (k * 9 + 8) (.int .i64 t) = flV (setTo l k t) := by
  refine List.ext_getElem? fun j => ?_
  have hL := flK_len ver_len l
  have hL2 := flK_len ver_len (setTo l k t)
  rw [setTo_len] at hL2
  by_cases hj : j < l.length * 9
  · have hk : j / 9 < l.length := by omega
    have g1 := flK_get ver_len l (j / 9) hk (j % 9) (by omega)
    have g2 := flK_get ver_len (setTo l k t) (j / 9) (by rw [setTo_len]; exact hk) (j % 9) (by omega)
    rw [show j / 9 * 9 + j % 9 = j by omega] at g1 g2
    rw [setTo_get _ _ _ _ hk] at g2
    rw [List.getElem?_set, g2, g1]
    by_cases e : k = j / 9
    · rw [if_pos e]
      by_cases e8 : j % 9 = 8
      · rw [if_pos (by omega), if_pos (by rw [hL]; omega), e8]; rfl
      · rw [if_neg (by omega)]
        have : j % 9 < 8 := by omega
        generalize j % 9 = r at this
        rcases r with _ | _ | _ | _ | _ | _ | _ | _ | r <;> first | rfl | omega
    · rw [if_neg e, if_neg (by omega)]
  · rw [List.getElem?_eq_none (by rw [List.length_set, hL]; omega), List.getElem?_eq_none (by rw [hL2]; omega)]
theorem to_set {w : World} {B g c : Nat} {b : Bk} (h : BkW w B b) (c0 : w.cell? ⟨B, 0, none⟩ = some (.slice (some ⟨g, 0, none⟩) b.l.length c)) (ho : w.ownsRow (B + 1) 54 9 (.slice (some ⟨g, 0, none⟩) b.l.length c) b.l.length (flV b.l)) (k : Nat) (t : Int) :
    BkW (w.setCell ⟨g, k * 9 + 8, none⟩ (.int .i64 t)) B ⟨setTo b.l k t, b.turn, b.next⟩ ∧ Ch B w (w.setCell ⟨g, k * 9 + 8, none⟩ (.int .i64 t)) := by
  rcases ho.2 with ⟨e0, h0⟩ | ⟨g', cap, cur, e1, hB, hc, hn, hm, hs, ht⟩
  · cases e0
  · injection e1 with e1 _ e3
    injection e1 with e1
    injection e1 with e1
    subst e1 e3
    have hgB : g ≠ B := by omega
    have ho2 : ∀ j, (w.setCell ⟨g, k * 9 + 8, none⟩ (.int .i64 t)).cell? ⟨B, j, none⟩ = w.cell? ⟨B, j, none⟩ := fun j => World.cell?_setCell_other w _ ⟨B, j, none⟩ _ (by simp)
    refine ⟨⟨(ho2 1).trans h.c1, (ho2 2).trans h.c2, fun j => by rw [World.frozen?_setCell]; exact h.fz j, ⟨_, (ho2 0).trans c0, ?_⟩, ?_⟩, ?_⟩
    · refine ⟨by rw [flK_len ver_len], .inr ⟨g, c, cur.setIfInBounds (k * 9 + 8) (.int .i64 t), by rw [setTo_len], hB, mid_self _ hc, by rw [setTo_len]; exact hn, hm, by simpa using hs, ?_⟩⟩
      rw [Array.toList_setIfInBounds, List.take_set, setTo_len, ht, flV_set]
    · obtain ⟨cur', t', fz, e1, e2⟩ := h.nt
      exact ⟨cur', t', fz, (mid_heap w g _ B _ (Ne.symm hgB)).trans e1, e2⟩
    · refine ⟨rfl, rfl, rfl, by simp, fun i o h1 h2 h3 => (mid_heap w g _ i _ (fun e => ?_)).trans h1, fun o _ => ho2 o, fun o => by rw [World.frozen?_setCell], fun i hi => mid_heap w g _ i _ (by omega)⟩
      subst e
      rw [hc] at h1
      injection h1 with h1
      exact h3 _ _ h1.symm
end Go.Proofs.YtpbbbiifeihkaaaDoor
