/- Joined: Spl, EvC. -/
import Derived.Lib.SplitLaws
import Derived.Lib.IndexBytes
import Derived.StillTailTactics
import Derived.Handy
import Derived.WalkSpells
import Derived.WalkLawsBesides
import Derived.Lib.Hide
import Derived.Test.YtefbedineniejaaDoorBase
import Derived.Test.YtefbedineniejaaDoorJoined11

section
/- A text in pieces, cut at one byte: plain laws. -/
namespace Go.Proofs.YtefbedineniejaaDoor.Sp

/-- The pieces between the bytes c. -/
def spl (c : UInt8) : List UInt8 → List (List UInt8)
  | [] => [[]]
  | b :: l => if b = c then [] :: spl c l else match spl c l with
    | [] => [[b]]
    | x :: r => (b :: x) :: r
/-- Pieces, joined by c. -/
def jn (c : UInt8) : List (List UInt8) → List UInt8
  | [] => []
  | [x] => x
  | x :: y :: r => x ++ c :: jn c (y :: r)

theorem spl_ne (c : UInt8) (l : List UInt8) : spl c l ≠ [] := by
  cases l with
  | nil => simp [spl]
  | cons b l =>
    unfold spl
    split
    · simp
    · split <;> simp
theorem spl_none {c : UInt8} {x : List UInt8} (h : c ∉ x) : spl c x = [x] := by
  induction x with
  | nil => rfl
  | cons b x ih =>
    simp only [List.mem_cons, not_or] at h
    rw [spl, if_neg (fun e => h.1 e.symm), ih h.2]
theorem spl_cons {c : UInt8} {x : List UInt8} (r : List UInt8) (h : c ∉ x) : spl c (x ++ c :: r) = x :: spl c r := by
  induction x with
  | nil => simp [spl]
  | cons b x ih =>
    simp only [List.mem_cons, not_or] at h
    rw [List.cons_append, spl, if_neg (fun e => h.1 e.symm), ih h.2]
theorem cut {c : UInt8} {l : List UInt8} (h : c ∈ l) : ∃ x r, l = x ++ c :: r ∧ c ∉ x := by
  induction l with
  | nil => simp at h
  | cons b l ih =>
    by_cases e : b = c
    · exact ⟨[], l, by rw [e]; rfl, by simp⟩
    · have h' : c ∈ l := by
        simp only [List.mem_cons] at h
        rcases h with h | h
        · exact absurd h.symm e
        · exact h
      obtain ⟨x, r, h1, h2⟩ := ih h'
      exact ⟨b :: x, r, by rw [h1]; rfl, by simp only [List.mem_cons, not_or]; exact ⟨fun h => e h.symm, h2⟩⟩
theorem jn_spl (c : UInt8) (l : List UInt8) : jn c (spl c l) = l := by
  induction l with
  | nil => rfl
  | cons b l ih =>
    unfold spl
    split
    · rename_i e
      cases h : spl c l with
      | nil => exact absurd h (spl_ne c l)
      | cons y r => rw [h] at ih; rw [jn, ih, e]; rfl
    · split
      · rename_i h
        exact absurd h (spl_ne c l)
      · rename_i x r h
        rw [h] at ih
        cases r with
        | nil => rw [jn] at ih ⊢; rw [ih]
        | cons y r => rw [jn] at ih ⊢; rw [← ih]; rfl
theorem spl_jn {c : UInt8} {L : List (List UInt8)} (h0 : L ≠ []) (h : ∀ x ∈ L, c ∉ x) : spl c (jn c L) = L := by
  induction L with
  | nil => exact absurd rfl h0
  | cons x L ih =>
    cases L with
    | nil => exact spl_none (h x (by simp))
    | cons y r =>
      rw [jn, spl_cons _ (h x (by simp)), ih (by simp) (fun z hz => h z (by simp [hz]))]
theorem spl_mem {c : UInt8} (l : List UInt8) : ∀ x ∈ spl c l, c ∉ x := by
  induction l with
  | nil => intro x hx; simp [spl] at hx; subst hx; simp
  | cons b l ih =>
    intro x hx
    unfold spl at hx
    split at hx
    · simp only [List.mem_cons] at hx
      rcases hx with rfl | hx
      · simp
      · exact ih x hx
    · rename_i hb
      split at hx
      · simp at hx; subst hx; simp; exact fun e => hb e.symm
      · rename_i y r h
        simp only [List.mem_cons] at hx
        rcases hx with rfl | hx
        · have := ih y (by rw [h]; simp)
          simp only [List.mem_cons, not_or]
          exact ⟨fun e => hb e.symm, this⟩
        · exact ih x (by rw [h]; simp [hx])
theorem spl_len (c : UInt8) (l : List UInt8) : (spl c l).length = l.count c + 1 := by
  induction l with
  | nil => rfl
  | cons b l ih =>
    unfold spl
    split
    · rename_i e
      subst e
      simp [ih]
    · rename_i e
      rw [List.count_cons_of_ne (by simpa using e)]
      split
      · rename_i h; exact absurd h (spl_ne c l)
      · rename_i y r h
        rw [h] at ih
        simpa using ih
theorem spl_size {c : UInt8} (l : List UInt8) : ∀ x ∈ spl c l, x.length ≤ l.length := by
  induction l with
  | nil => intro x hx; simp [spl] at hx; subst hx; simp
  | cons b l ih =>
    intro x hx
    unfold spl at hx
    split at hx
    · simp only [List.mem_cons] at hx
      rcases hx with rfl | hx
      · simp
      · have := ih x hx; simp; omega
    · split at hx
      · simp at hx; subst hx; simp
      · rename_i y r h
        simp only [List.mem_cons] at hx
        rcases hx with rfl | hx
        · have := ih y (by rw [h]; simp); simp; omega
        · have := ih x (by rw [h]; simp [hx]); simp; omega

theorem index_skip {c : UInt8} (x r : List UInt8) (h : c ∉ x) : Lib.indexByte (x ++ c :: r) c = x.length := by
  induction x with
  | nil => simp [Lib.indexByte]
  | cons b l ih =>
    simp only [List.mem_cons, not_or] at h
    have hb : (b == c) = false := by rw [beq_eq_false_iff_ne]; exact fun e => h.1 e.symm
    have := ih h.2
    simp only [List.cons_append, Lib.indexByte, hb, this]
    simp
/-- The library's own cut, at every instance. -/
theorem splitK_spl (c : UInt8) : ∀ (k : Nat) (l : List UInt8), l.count c = k → Lib.splitK [c] 0 k l = spl c l := by
  intro k
  induction k with
  | zero =>
    intro l h
    rw [List.count_eq_zero] at h
    rw [spl_none h]; rfl
  | succ k ih =>
    intro l h
    have hm : c ∈ l := by
      rw [← List.count_pos_iff]; omega
    obtain ⟨x, r, rfl, hx⟩ := cut hm
    rw [spl_cons r hx]
    have hc : r.count c = k := by
      rw [List.count_append, List.count_cons_self, List.count_eq_zero.2 hx] at h
      omega
    have hi := index_skip x r hx
    rw [Lib.splitK, if_neg (by rw [Lib.index_one, hi]; simp), Lib.index_one, hi]
    rw [show ((x.length : Int)).toNat + 0 = x.length by omega, show ((x.length : Int)).toNat + [c].length = x.length + 1 by simp, List.take_left' rfl]
    rw [show (x ++ c :: r).drop (x.length + 1) = r by rw [show x ++ c :: r = (x ++ [c]) ++ r by simp, List.drop_left' (by simp)], ih r hc]
theorem splitB_spl (c : UInt8) (s : ByteArray) : Lib.splitB ⟨#[c]⟩ 0 (Lib.countB s ⟨#[c]⟩) s = (spl c s.data.toList).map (fun x => (⟨x.toArray⟩ : ByteArray)) := by
  have h := Lib.splitB_data ⟨#[c]⟩ 0 (Lib.countB s ⟨#[c]⟩) s
  have hc : Lib.countB s ⟨#[c]⟩ = s.data.toList.count c := by
    show Lib.count s.data.toList [c] = _
    exact Lib.count_one c _
  rw [hc] at h ⊢
  rw [show (⟨#[c]⟩ : ByteArray).data.toList = [c] from rfl, splitK_spl c _ _ rfl] at h
  rw [← h, List.map_map]
  have : ((fun x : List UInt8 => (⟨x.toArray⟩ : ByteArray)) ∘ fun x : ByteArray => x.data.toList) = id := by
    funext x
    rfl
  rw [this, List.map_id]
end Go.Proofs.YtefbedineniejaaDoor.Sp
end

section
/- event.Compare: what it hands back. -/
namespace Go.Proofs.YtefbedineniejaaDoor
open Go.RowKit

namespace Ev
/-- -1, 0, 1: less, alike, more. -/
def cmpI (x y : Int) : Int := if x < y then -1 else if y < x then 1 else 0
def or3 (a b c : Int) : Int := if a = 0 then (if b = 0 then c else b) else a
/-- The order of events: days, kinds, numbers. -/
def cmpE (i k d i' k' d' : Int) : Int := or3 (cmpI d d') (cmpI k k') (cmpI i i')
theorem cmpI_bd (x y : Int) : cmpI x y = -1 ∨ cmpI x y = 0 ∨ cmpI x y = 1 := by
  unfold cmpI
  split
  · exact Or.inl rfl
  · split
    · exact Or.inr (Or.inr rfl)
    · exact Or.inr (Or.inl rfl)
end Ev

set_option maxHeartbeats 400000 in
theorem nan_any (x : Int) (w : World) : Calls Tryd.prog 84 #[.int .i64 x] w fun e w' => e = .returned (.bool false) ∧ w' = w := by
  go_enter Tryd.func84, Tryd.ntmps84
  go_wp2
  go_ret
  exact ⟨rfl, rfl⟩

set_option maxHeartbeats 400000 in
theorem cmp_any (x y : Int) (w : World) : Calls Tryd.prog 69 #[.int .i64 x, .int .i64 y] w fun e w' => e = .returned (.int .i64 (Ev.cmpI x y)) ∧ w' = w := by
  by_cases h1 : x < y
  · have e : Ev.cmpI x y = -1 := by rw [Ev.cmpI, if_pos h1]
    rw [e]; clear e
    go_enter Tryd.func69, Tryd.ntmps69
    go_wp2_with (go_at_call 84; refine (nan_any _ _).mono ?_; rintro e w' ⟨rfl, rfl⟩)
    go_ret
    exact ⟨rfl, rfl⟩
  · by_cases h2 : y < x
    · have e : Ev.cmpI x y = 1 := by rw [Ev.cmpI, if_neg h1, if_pos h2]
      rw [e]; clear e
      go_enter Tryd.func69, Tryd.ntmps69
      go_wp2_with (go_at_call 84; refine (nan_any _ _).mono ?_; rintro e w' ⟨rfl, rfl⟩)
      go_ret
      exact ⟨rfl, rfl⟩
    · have e : Ev.cmpI x y = 0 := by rw [Ev.cmpI, if_neg h1, if_neg h2]
      rw [e]; clear e
      go_enter Tryd.func69, Tryd.ntmps69
      go_wp2_with (go_at_call 84; refine (nan_any _ _).mono ?_; rintro e w' ⟨rfl, rfl⟩)
      go_ret
      exact ⟨rfl, rfl⟩

set_option maxHeartbeats 1000000 in
set_option maxRecDepth 100000 in
theorem or_any (a b c : Int) (n : Nat) (w : World) (ha : w.cell? ⟨n, 0, none⟩ = some (.int .i64 a)) (hb : w.cell? ⟨n, 1, none⟩ = some (.int .i64 b)) (hc : w.cell? ⟨n, 2, none⟩ = some (.int .i64 c)) :
    Calls Tryd.prog 68 #[.slice (some ⟨n, 0, none⟩) 3 3] w fun e w' => e = .returned (.int .i64 (Ev.or3 a b c)) ∧ w' = w := by
  by_cases h1 : a = 0
  · subst h1
    by_cases h2 : b = 0
    · subst h2
      by_cases h3 : c = 0
      · subst h3
        show Calls _ _ _ _ fun e w' => e = .returned (.int .i64 0) ∧ w' = w
        go_enter Tryd.func68, Tryd.ntmps68
        go_wp2
        refine wp_loop_rounds 4 ?_
        rw [rounds_succ]
        go_wp2
        rw [rounds_succ]
        go_wp2
        rw [rounds_succ]
        go_wp2
        rw [rounds_succ]
        go_wp2
        go_ret
        exact ⟨rfl, rfl⟩
      · have e : Ev.or3 0 0 c = c := rfl
        rw [e]
        have n1 : (c == 0) = false := by simpa using h3
        have n2 : (c != 0) = true := by simpa using h3
        clear e
        go_enter Tryd.func68, Tryd.ntmps68
        go_wp2
        refine wp_loop_rounds 3 ?_
        rw [rounds_succ]
        go_wp2
        rw [rounds_succ]
        go_wp2
        rw [rounds_succ]
        go_wp2
        go_ret
        exact ⟨rfl, rfl⟩
    · have e : Ev.or3 0 b c = b := by rw [Ev.or3, if_pos rfl, if_neg h2]
      rw [e]
      have n1 : (b == 0) = false := by simpa using h2
      have n2 : (b != 0) = true := by simpa using h2
      clear e
      go_enter Tryd.func68, Tryd.ntmps68
      go_wp2
      refine wp_loop_rounds 2 ?_
      rw [rounds_succ]
      go_wp2
      rw [rounds_succ]
      go_wp2
      go_ret
      exact ⟨rfl, rfl⟩
  · have e : Ev.or3 a b c = a := by rw [Ev.or3, if_neg h1]
    rw [e]
    have n1 : (a == 0) = false := by simpa using h1
    have n2 : (a != 0) = true := by simpa using h1
    clear e
    go_enter Tryd.func68, Tryd.ntmps68
    go_wp2
    refine wp_loop_rounds 1 ?_
    rw [rounds_succ]
    go_wp2
    go_ret
    exact ⟨rfl, rfl⟩

set_option maxHeartbeats 4000000 in
set_option maxRecDepth 100000 in
theorem compare_any (i k q p o d i' k' q' p' o' d' : Int) (s s' : ByteArray) (w : World) :
    Calls Tryd.prog 50 #[.agg #[.int .i64 i, .string s, .int .i64 k, .int .i64 q, .int .i64 p, .int .i64 o, .int .i64 d], .agg #[.int .i64 i', .string s', .int .i64 k', .int .i64 q', .int .i64 p', .int .i64 o', .int .i64 d']] w
      (Gives (.int .i64 (Ev.cmpE i k d i' k' d')) w) := by
  have HO := Lib.hid (fun (a b c : Int) (n : Nat) (w : World) => or_any a b c n w)
  have h1 := Lib.hid (cmp_any d d')
  have h2 := Lib.hid (cmp_any k k')
  have h3 := Lib.hid (cmp_any i i')
  have hE : Hid (Ev.cmpE i k d i' k' d' = Ev.or3 (Ev.cmpI d d') (Ev.cmpI k k') (Ev.cmpI i i')) := rfl
  generalize Ev.cmpI d d' = x at h1 hE
  generalize Ev.cmpI k k' = y at h2 hE
  generalize Ev.cmpI i i' = z at h3 hE
  rw [hE.out]
  clear hE
  go_enter Tryd.func50, Tryd.ntmps50
  go_wp2
  refine wp_region_still_tail 15 (by kernel_rfl) (by kernel_rfl) ?_
  change wpStill _ _ (World.drew _) _ _ _
  generalize hW : World.drew _ = W
  have a6 : W.cell? ⟨w.heap.size, 6, none⟩ = some (.int .i64 d) := by rw [← hW]; simp
  have a2 : W.cell? ⟨w.heap.size, 2, none⟩ = some (.int .i64 k) := by rw [← hW]; simp
  have a0 : W.cell? ⟨w.heap.size, 0, none⟩ = some (.int .i64 i) := by rw [← hW]; simp
  have b6 : W.cell? ⟨w.heap.size + 1, 6, none⟩ = some (.int .i64 d') := by rw [← hW]; simp
  have b2 : W.cell? ⟨w.heap.size + 1, 2, none⟩ = some (.int .i64 k') := by rw [← hW]; simp
  have b0 : W.cell? ⟨w.heap.size + 1, 0, none⟩ = some (.int .i64 i') := by rw [← hW]; simp
  have hbW : Below w.heap.size w W := by rw [← hW]; exact below_drewN (((Below.refl _ _).alloc (Nat.le_refl _) _).alloc (by simp) _) 1
  have HW := Lib.hid hW
  clear hW
  simp only [List.take_succ_cons, List.take_zero, List.drop_succ_cons, List.drop_zero]
  still_step
  still_step
  still_step
  still_step
  still_call (h1.out _)
  still_step
  still_step
  still_step
  still_step
  still_call (h2.out _)
  still_step
  still_step
  still_step
  still_step
  still_call (h3.out _)
  refine wpStill_nil ?_
  change wpList _ _ _ _ _ (World.drew _)
  rw [HW.out]
  have hbs := hbW.size
  go_wp2_with fail
  refine (HO.out x y z W.heap.size _ (by simp) (by simp) (by simp)).mono ?_
  rintro e w' ⟨rfl, rfl⟩
  go_wp2_with fail
  go_ret
  exact ⟨rfl, hbW.new _⟩
end Go.Proofs.YtefbedineniejaaDoor
end
