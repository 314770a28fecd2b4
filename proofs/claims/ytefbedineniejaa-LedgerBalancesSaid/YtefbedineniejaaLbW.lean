/- tallymankeep.LedgerBalances's closures; period.Plus, Minus; slices.ContainsFunc at postings. -/
import Derived.Test.YtefbedineniejaaLbM
import Derived.Test.YtefbedineniejaaClo
import Derived.Test.YtefbedineniejaaQTail
namespace Go.Proofs.Ytefbedineniejaa
open Go.RowKit
open Go.Maps (Keyed)
open Go.Proofs (encStr)
set_option linter.unusedVariables false

abbrev figV (i o l g t : Int) : Value := .agg #[.int .i64 i, .int .i64 o, .int .i64 l, .int .i64 g, .int .i64 t]
def Lil (n : Int) : Prop := -4000000000000 ≤ n ∧ n ≤ 4000000000000
set_option maxHeartbeats 1000000 in
set_option maxRecDepth 100000 in
theorem plus_any (i o l g t i' o' l' g' t' : Int) (w : World) (h : Lil i ∧ Lil o ∧ Lil l ∧ Lil g ∧ Lil t) (h' : Lil i' ∧ Lil o' ∧ Lil l' ∧ Lil g' ∧ Lil t') :
    Calls Try.prog 11 #[figV i o l g t, figV i' o' l' g' t'] w (Gives (figV (i + i') (o + o') (l + l') (g + g') (t + t')) w) := by
  obtain ⟨⟨a1, a2⟩, ⟨b1, b2⟩, ⟨c1, c2⟩, ⟨d1, d2⟩, ⟨e1, e2⟩⟩ := h
  obtain ⟨⟨a1', a2'⟩, ⟨b1', b2'⟩, ⟨c1', c2'⟩, ⟨d1', d2'⟩, ⟨e1', e2'⟩⟩ := h'
  go_enter Try.func11, Try.ntmps11
  go_wp2
  exact bodyPost_ret (v := figV (i + i') (o + o') (l + l') (g + g') (t + t')) (by simp [results, Try.results11, go_sem]) rfl ⟨rfl, (((Below.refl _ w).new _).new _).new _⟩
set_option maxHeartbeats 1000000 in
set_option maxRecDepth 100000 in
theorem minus_any (i o l g t i' o' l' g' t' : Int) (w : World) (h : Lil i ∧ Lil o ∧ Lil l ∧ Lil g ∧ Lil t) (h' : Lil i' ∧ Lil o' ∧ Lil l' ∧ Lil g' ∧ Lil t') :
    Calls Try.prog 12 #[figV i o l g t, figV i' o' l' g' t'] w (Gives (figV (i - i') (o - o') (l - l') (g - g') (t - t')) w) := by
  obtain ⟨⟨a1, a2⟩, ⟨b1, b2⟩, ⟨c1, c2⟩, ⟨d1, d2⟩, ⟨e1, e2⟩⟩ := h
  obtain ⟨⟨a1', a2'⟩, ⟨b1', b2'⟩, ⟨c1', c2'⟩, ⟨d1', d2'⟩, ⟨e1', e2'⟩⟩ := h'
  go_enter Try.func12, Try.ntmps12
  go_wp2
  exact bodyPost_ret (v := figV (i - i') (o - o') (l - l') (g - g') (t - t')) (by simp [results, Try.results12, go_sem]) rfl ⟨rfl, (((Below.refl _ w).new _).new _).new _⟩

set_option maxHeartbeats 1000000 in
set_option maxRecDepth 100000 in
theorem bad_no (p : Lg.P) (w : World) (h1 : 0 < p.n) (h2 : ¬ p.d = p.c) :
    Calls Try.prog 14 #[.agg #[.string p.d, .string p.c, .int .i64 p.n]] w (Gives (.bool false) w) := by
  have e1 : decide (p.n ≤ 0) = false := by simp; omega
  have e2 : (p.d.toList == p.c.toList) = false := by rw [beq_eq_false_iff_ne, ByteArray.toList_eq, ByteArray.toList_eq]; exact fun h => h2 (ByteArray.ext (Array.ext' h))
  go_enter Try.func14, Try.ntmps14
  go_wp2
  go_ret
  exact ⟨rfl, (Below.refl _ w).new _⟩
set_option maxHeartbeats 1000000 in
set_option maxRecDepth 100000 in
theorem indexBad_no (L : List Lg.P) (a : Option Addr) (cap : Nat) (w : World) (hL : L.length ≤ 1000) (hr : Rd w a (Lg.fl L)) (h : ∀ p ∈ L, ¬ p.d = p.c ∧ 0 < p.n) :
    Calls Try.prog 19 #[.slice a L.length cap, .func (.func 14) #[] #[]] w (Gives (.int .i64 (-1)) w) := by
  have HR := Lib.hid hr
  have HS := Lib.hid h
  clear hr h
  go_enter Try.func19, Try.ntmps19
  go_wp2
  go_loopw [8] (fun i wr => ∃ k : Nat, k ≤ L.length ∧ i = .int .i64 k ∧ Below w.heap.size w wr) (fun i _ => L.length - (intOf i).toNat)
  case atStart => exact ⟨0, by omega, rfl, Below.refl _ _⟩
  case round =>
    obtain ⟨k, hk, rfl, hb⟩ := hrel
    by_cases hlt : k < L.length
    · obtain ⟨b, off, rfl, p0, p1, p2⟩ := (HR.out.below hb).posting k hlt
      obtain ⟨p, hp⟩ : ∃ p, p = L[k] := ⟨_, rfl⟩
      rw [← hp] at p0 p1 p2
      obtain ⟨s1, s2⟩ := HS.out p (by rw [hp]; exact List.getElem_mem hlt)
      have HB := Lib.hid (fun w' => bad_no p w' s2 s1)
      clear hp s1 s2
      go_wp2_with fail
      refine (HB.out _).mono ?_
      rintro e w1 ⟨rfl, hb1⟩
      go_wp2
      go_roundw
      case rel => exact ⟨k + 1, by omega, by go_num, hb.step hb1⟩
      case measure => simp [intOf]; omega
    · go_wp2
      go_ret
      exact ⟨rfl, hb⟩
set_option maxHeartbeats 1000000 in
set_option maxRecDepth 100000 in
theorem containsBad_no (L : List Lg.P) (a : Option Addr) (cap : Nat) (w : World) (hL : L.length ≤ 1000) (hr : Rd w a (Lg.fl L)) (h : ∀ p ∈ L, ¬ p.d = p.c ∧ 0 < p.n) :
    Calls Try.prog 13 #[.slice a L.length cap, .func (.func 14) #[] #[]] w (Gives (.bool false) w) := by
  have H := Lib.hid (indexBad_no L a cap w hL hr h)
  clear hr h
  go_enter Try.func13, Try.ntmps13
  go_wp2_with fail
  refine H.out.mono ?_
  rintro e w1 ⟨rfl, hb1⟩
  go_wp2
  go_ret
  exact ⟨rfl, hb1⟩

theorem balCells_len (B : List (List UInt8 × Int)) : (balCells B).length = B.length * 2 := by
  induction B with
  | nil => rfl
  | cons p B ih => simp only [balCells, List.flatMap_cons, List.length_append, List.length_cons] at *; rw [ih]; simp; omega
theorem balCells_get (B : List (List UInt8 × Int)) (k : Nat) (h : k < B.length) : (balCells B).getD (k * 2) undef = .string ⟨(B[k]).1.toArray⟩ ∧ (balCells B).getD (k * 2 + 1) undef = .int .i64 (B[k]).2 := by
  induction B generalizing k with
  | nil => simp at h
  | cons p B ih =>
    have e : balCells (p :: B) = [.string ⟨p.1.toArray⟩, .int .i64 p.2] ++ balCells B := rfl
    cases k with
    | zero => rw [e]; exact ⟨rfl, rfl⟩
    | succ k =>
      obtain ⟨a, b⟩ := ih k (by simpa using h)
      have h2 : ∀ m, ([Value.string ⟨p.1.toArray⟩, .int .i64 p.2] ++ balCells B).getD (m + 2) undef = (balCells B).getD m undef := fun m => rfl
      rw [e, show (k + 1) * 2 = k * 2 + 2 by omega, show k * 2 + 2 + 1 = k * 2 + 1 + 2 by omega, h2, h2]
      exact ⟨a, b⟩
theorem Rd.bal {w : World} {a : Option Addr} {B : List (List UInt8 × Int)} (h : Rd w a (balCells B)) (k : Nat) (hk : k < B.length) : ∃ b off, a = some ⟨b, off, none⟩ ∧ w.cell? ⟨b, off + k * 2, none⟩ = some (.string ⟨(B[k]).1.toArray⟩) ∧ w.cell? ⟨b, off + k * 2 + 1, none⟩ = some (.int .i64 (B[k]).2) := by
  have hg := balCells_get B k hk
  have hl := balCells_len B
  obtain ⟨b, off, rfl, c0⟩ := h.at (k * 2) (by omega)
  obtain ⟨b', off', e1, c1⟩ := h.at (k * 2 + 1) (by omega)
  cases e1
  rw [hg.1] at c0
  rw [hg.2, ← Nat.add_assoc] at c1
  exact ⟨b, off, rfl, c0, c1⟩
theorem gb_trans {a b c : World} {r : Option Nat} (h : a.grownBy b r) (k : b.grownBy c r) : a.grownBy c r :=
  ⟨k.os.trans h.os, k.tape.trans h.tape, k.output.trans h.output, Nat.le_trans h.size k.size, fun j hj hne => (k.block j (Nat.lt_of_lt_of_le hj h.size) hne).trans (h.block j hj hne)⟩
theorem gb_below {a b c : World} {r : Option Nat} (h : a.grownBy b r) (k : Below b.heap.size b c) : a.grownBy c r :=
  ⟨k.os.trans h.os, k.tape.trans h.tape, k.output.trans h.output, Nat.le_trans h.size k.size, fun j hj hne => (k.block j (Nat.lt_of_lt_of_le hj h.size)).trans (h.block j hj hne)⟩
theorem gb_refl (a : World) (r : Option Nat) : a.grownBy a r := ⟨rfl, rfl, rfl, Nat.le_refl _, fun _ _ _ => rfl⟩
def kyB (p : List UInt8 × Int) : Lit := .string p.1
theorem Tr.sum_out (L : List Lg.P) (x : Lit) (h : x ∉ Tr.keys L) : Tr.sum L x = 0 := by
  suffices hh : ∀ (n : Nat) (L : List Lg.P), L.length = n → x ∉ Tr.keys L → Tr.sum L x = 0 from hh _ L rfl h
  intro n
  induction n with
  | zero => intro L hl _; obtain rfl := List.length_eq_zero_iff.1 hl; rfl
  | succ n ih =>
    intro L hl h
    obtain ⟨A, p, rfl⟩ : ∃ A p, L = A ++ [p] := ⟨L.dropLast, L.getLast (by intro e; subst e; simp at hl), (List.dropLast_concat_getLast _).symm⟩
    rw [Tr.keys_snoc, Tr.keyS_mem] at h
    have h1 : ¬ x ∈ Tr.keys A := fun e => h (Or.inl e)
    have h2 : x ≠ Tr.ky p.d := fun e => h (Or.inr (Or.inl e))
    have h3 : x ≠ Tr.ky p.c := fun e => h (Or.inr (Or.inr e))
    rw [Tr.sum_snoc]
    unfold Tr.step
    rw [updI_other _ _ h3, updI_other _ _ h2]
    exact ih A (by simpa using hl) h1
theorem Tr.keys_str (L : List Lg.P) : ∀ x ∈ Tr.keys L, Lit.string (strOf x) = x := by
  intro x hx
  obtain ⟨p, -, rfl | rfl⟩ := (Tr.keys_mem L x).1 hx <;> rfl
theorem Tr.bal_keys (L : List Lg.P) (x : Lit) : x ∈ (Tr.bal L).map kyB ↔ x ∈ Tr.keys L := by
  unfold Tr.bal
  rw [List.map_map, List.mem_map]
  constructor
  · rintro ⟨s, hs, rfl⟩
    obtain ⟨y, hy, rfl⟩ := List.mem_map.1 ((srt_perm _).mem_iff.1 hs)
    show Lit.string (strOf y) ∈ _
    rw [Tr.keys_str L y hy]; exact hy
  · intro hx
    exact ⟨strOf x, (srt_perm _).mem_iff.2 (List.mem_map.2 ⟨x, hx, rfl⟩), Tr.keys_str L x hx⟩
theorem lg_ne' {w : World} {b base e size n : Nat} {v : Value} {xs : List Value} (h : w.ownsRow base e size v n xs) (hb : b < base) : v.ownBlock = none ∨ v.ownBlock ≠ some b := by
  rcases h.2 with ⟨rfl, _⟩ | ⟨g, cap, cur, rfl, hB, _⟩
  · exact Or.inl rfl
  · exact Or.inr (by simp [Value.ownBlock]; omega)
/-- A map of all balances that are not nothing. -/
def OfP (g : Lit → Int) (w : World) (e : Ending) (w' : World) : Prop := ∃ b ks g', e = .returned (.map (some b)) ∧ w.heap.size ≤ b ∧ MVI Try.prog 9 w' b ks g' ∧ (∀ x, g' x = g x) ∧ (∀ x, x ∈ ks ↔ g x ≠ 0) ∧ Below w.heap.size w w'
/-- What comes of sums, as Go adds. -/
def wsum (B : List (List UInt8 × Int)) : Int := B.foldl (fun s p => wrap64 (s + p.2)) 0
theorem wsum_snoc (B : List (List UInt8 × Int)) (p : List UInt8 × Int) : wsum (B ++ [p]) = wrap64 (wsum B + p.2) := by simp [wsum, List.foldl_append]
set_option maxHeartbeats 2000000 in
set_option maxRecDepth 100000 in
theorem of_any (L : List Lg.P) (a : Option Addr) (cap : Nat) (w : World) (hL : L.length ≤ 1000) (hr : Rd w a (Lg.fl L)) (hs : ∀ p ∈ L, p.d.size ≤ maxLen ∧ p.c.size ≤ maxLen) (h0 : wsum (Tr.bal L) = 0) :
    Calls Try.prog 6 #[.slice a L.length cap] w (OfP (Tr.sum L) w) := by
  have HT := Lib.hid (trial_any L a cap (w.alloc (.map #[] 0)) hL (hr.alloc _) hs)
  have hmm := @run_makeMap Try.prog
  have hBl : (Tr.bal L).length ≤ 2000 := by unfold Tr.bal; rw [List.length_map, srt_len]; have := Tr.keys_len L; omega
  obtain ⟨B, hB⟩ : ∃ B, B = Tr.bal L := ⟨_, rfl⟩
  rw [← hB] at HT h0 hBl
  have HB := Lib.hid hB
  have H0 := Lib.hid h0
  have HSZ := Lib.hid hs
  clear hr hs hB h0
  go_enter Try.func6, Try.ntmps6
  go_wp2_with fail
  refine HT.out.mono ?_
  rintro e w1 ⟨v1, rfl, hrow, hb1⟩
  obtain ⟨a1, cap1, rfl, hrd, -, -⟩ := rd_of_own hrow
  rw [World.size_alloc] at hb1
  have hm1 : MVI Try.prog 9 w1 w.heap.size [] (fun _ => 0) := MV.below (MVI.made _ _ _) (by rw [World.size_alloc]; exact hb1)
  have hB1 : Below w.heap.size w w1 := ((Below.refl _ w).new _).trans (hb1.mono (by omega))
  have hlt1 : w.heap.size < w1.heap.size := by have := hb1.size; simp at this; omega
  clear hrd hmm hb1
  have HROW := Lib.hid hrow
  have HS := Lib.hid (fun p (hp : p ∈ B) => (show p.2 = Tr.sum L (kyB p) ∧ p.1.length ≤ maxLen from by
    rw [HB.out] at hp
    obtain ⟨s, hs, rfl⟩ := List.mem_map.1 hp
    refine ⟨rfl, ?_⟩
    obtain ⟨y, hy, rfl⟩ := List.mem_map.1 ((srt_perm _).mem_iff.1 hs)
    obtain ⟨q, hq, rfl | rfl⟩ := (Tr.keys_mem L y).1 hy
    · have := (HSZ.out q hq).1; simpa [Tr.ky, strOf] using this
    · have := (HSZ.out q hq).2; simpa [Tr.ky, strOf] using this))
  clear hrow
  go_wp2
  go_loopw [5, 6] (fun s i wr => ∃ k : Nat, k ≤ B.length ∧ i = .int .i64 k ∧ s = .int .i64 (wsum (B.take k)) ∧ ∃ ks g', MVI Try.prog 9 wr w.heap.size ks g' ∧ (∀ x, x ∈ ks ↔ x ∈ (B.take k).map kyB ∧ Tr.sum L x ≠ 0) ∧ (∀ x ∈ ks, g' x = Tr.sum L x) ∧ w1.grownBy wr (some w.heap.size) ∧ ks.length ≤ k) (fun _ i _ => B.length - (intOf i).toNat)
  case atStart => exact ⟨0, by omega, rfl, rfl, [], _, hm1, by simp, by simp, gb_refl _ _, by simp⟩
  case round =>
    obtain ⟨k, hk, rfl, rfl, ks, g', hm, hks, hgs, hg, hkl⟩ := hrel
    have HKS := Lib.hid hks
    have HGS := Lib.hid hgs
    clear hks hgs
    by_cases hlt : k < B.length
    · have hrw := HROW.out.kept hg (lg_ne' HROW.out (by rw [World.size_alloc]; omega))
      obtain ⟨a2, cap2, e2, hrd2, -, -⟩ := rd_of_own hrw
      cases e2
      obtain ⟨bb, off, rfl, c0, c1⟩ := hrd2.bal k hlt
      obtain ⟨p, hp⟩ : ∃ p, p = B[k] := ⟨_, rfl⟩
      rw [← hp] at c0 c1
      have hpB : p ∈ B := by rw [hp]; exact List.getElem_mem hlt
      obtain ⟨hp2, hpl⟩ := HS.out p hpB
      have HTK : Hid (B.take (k + 1) = B.take k ++ [p]) := Lib.hid (by rw [List.take_succ_eq_append_getElem hlt, hp])
      obtain ⟨x, hx⟩ : ∃ x : ByteArray, x = ⟨p.1.toArray⟩ := ⟨_, rfl⟩
      rw [← hx] at c0
      have hxk : Tr.ky x = kyB p := by rw [hx]; rfl
      have hxl : x.size ≤ maxLen := by rw [hx]; exact hpl
      have HXK := Lib.hid hxk
      obtain ⟨n, hn⟩ : ∃ n, n = p.2 := ⟨_, rfl⟩
      rw [← hn] at c1
      have HN := Lib.hid hn
      have HP2 := Lib.hid hp2
      clear hrw hrd2 hp hx hxk hn hp2 hpl hpB
      by_cases hz : n = 0
      · have hz1 : (n != 0) = false := by simp [hz]
        have HZ := Lib.hid hz
        clear hz
        go_wp2
        go_roundw
        case rel =>
          refine ⟨k + 1, by omega, by go_num, by rw [HTK.out, wsum_snoc, ← HN.out], ks, g', hm, fun y => ?_, HGS.out, hg, by omega⟩
          rw [HTK.out, List.map_append, List.mem_append, HKS.out]
          constructor
          · rintro ⟨h1, h2⟩; exact ⟨Or.inl h1, h2⟩
          · rintro ⟨h1 | h1, h2⟩
            · exact ⟨h1, h2⟩
            · simp at h1
              subst h1
              exact absurd (by rw [← HP2.out, ← HN.out]; exact HZ.out) h2
        case measure => simp [intOf]; omega
      · have hz1 : (n != 0) = true := by simp [hz]
        have HZ := Lib.hid hz
        clear hz
        go_wp2
        have hcs := fun (p : Since wr) b o h => Since.cells p b o h
        have hbw := cell_lt c0
        refine wp_region_since_tail 11 (by kernel_rfl) (by kernel_rfl) ?_
        simp only [List.take_succ_cons, List.take_zero, List.drop_succ_cons, List.drop_zero]
        iterate 11 (go_big_quiet_step (fail))
        refine wpQuiet_nil ?_
        intro w3 hw3
        obtain ⟨pp, hp3⟩ := hw3
        have hb3 : Below wr.heap.size wr w3 := by rw [hp3]; exact pp.h
        clear hp3 pp hcs
        have hm3 := MV.below hm hb3
        refine wpList_update_mvi hm3 rfl _ _ _ 27 rfl 3 (Go.Maps.string_keyed Try.underlying9) Try.underlying27 (by unfold maxLen; omega) rfl _ (Tr.ky x) rfl _ rfl (key_str _ hxl) ?_
        intro w4 hm4 hg4
        go_wp2
        go_roundw
        case rel =>
          have hz0 : Tr.sum L (kyB p) ≠ 0 := by rw [← HP2.out, ← HN.out]; exact HZ.out
          refine ⟨k + 1, by omega, by go_num, by rw [HTK.out, wsum_snoc, ← HN.out], _, _, hm4, fun y => ?_, fun y hy => ?_, gb_trans (gb_below hg hb3) hg4, Nat.le_trans (addK_len _ _) (by omega)⟩
          · rw [mem_addK, HTK.out, List.map_append, List.mem_append, HKS.out, HXK.out]
            constructor
            · rintro (⟨h1, h2⟩ | rfl)
              · exact ⟨Or.inl h1, h2⟩
              · exact ⟨Or.inr (by simp), hz0⟩
            · rintro ⟨h1 | h1, h2⟩
              · exact Or.inl ⟨h1, h2⟩
              · simp at h1; exact Or.inr h1
          · rw [HXK.out]
            by_cases e : y = kyB p
            · subst e; rw [updI_same, HN.out, HP2.out]
            · rw [updI_other _ _ e]
              rcases (mem_addK _ _ _).1 hy with h1 | h1
              · exact HGS.out y h1
              · exact absurd (h1.trans HXK.out) e
        case measure => simp [intOf]; omega
    · obtain rfl : k = B.length := by omega
      have h00 : (wsum B != 0) = false := by rw [H0.out]; rfl
      rw [List.take_length]
      rw [List.take_length] at HKS
      go_wp2
      go_ret
      have hsum : ∀ y, y ∈ ks ↔ Tr.sum L y ≠ 0 := fun y => by
        rw [HKS.out, HB.out, Tr.bal_keys]
        exact ⟨fun h => h.2, fun h => ⟨Classical.byContradiction fun h' => h (Tr.sum_out L y h'), h⟩⟩
      refine ⟨w.heap.size, ks, g', rfl, Nat.le_refl _, hm, fun y => ?_, hsum, hB1.grown hg hB1.size (fun j e => by cases e; exact Nat.le_refl _)⟩
      by_cases hy : y ∈ ks
      · exact HGS.out y hy
      · have h1 : Tr.sum L y = 0 := Classical.byContradiction fun h => hy ((hsum y).2 h)
        have h2 := hm.zero y hy
        rw [h1]
        injection h2

set_option maxHeartbeats 2000000 in
set_option maxRecDepth 100000 in
/-- Two maps that hold the same. -/
theorem same_yes (b1 b2 : Nat) (k1 k2 : List Lit) (g1 g2 : Lit → Int) (w : World) (h1 : MVI Try.prog 9 w b1 k1 g1) (h2 : MVI Try.prog 9 w b2 k2 g2) (hk : ∀ x, x ∈ k1 ↔ x ∈ k2) (hg : ∀ x, g1 x = g2 x) :
    Calls Try.prog 8 #[.map (some b1), .map (some b2)] w (Gives (.bool true) w) := by
  have hlen : k1.length = k2.length := ((List.perm_ext_iff_of_nodup h1.nd h2.nd).2 hk).length_eq
  have l1 := fun ty => MV.len h1 Try.underlying27 ty
  have l2 := fun ty => MV.len h2 Try.underlying27 ty
  rw [← hlen] at l2
  have hne : ((k1.length : Int) != (k1.length : Int)) = false := by simp
  obtain ⟨w1, hrun, hr1, hb1, hz1⟩ := MV.range h1 (Go.Maps.string_keyed Try.underlying9) Try.underlying27
  have H2 := Lib.hid h2
  have HG := Lib.hid hg
  have HK := Lib.hid hk
  have HR1 := Lib.hid hr1
  clear hk hg h2 hlen hr1 hz1
  go_enter Try.func8, Try.ntmps8
  go_wp2
  go_loopw [5, 6] (fun _ _ wr => ∃ rest, MR Try.prog 9 (.int .i64 0) wr b1 w.heap.size k1 (fun kl => .int .i64 (g1 kl)) rest ∧ Below w.heap.size w wr) (fun _ _ wr => wr.rangeLeft b1 w.heap.size)
  case atStart => exact ⟨k1, HR1.out, hb1⟩
  case round =>
    obtain ⟨rest, hr, hb⟩ := hrel
    rcases hr.next (Go.Maps.string_keyed Try.underlying9) 0 with ⟨-, hnx⟩ | ⟨key, kl, w3, hkey, hkl, hnx, hr3, hg3, hz3, hlt3, hen⟩
    · go_wp2
      go_ret
      exact ⟨rfl, hb⟩
    · obtain ⟨x, rfl, rfl, -⟩ := Maps.keyOf_str Try.underlying9 hkey
      have hb3 : Below w.heap.size w w3 := hb.grown hg3 hb.size (fun j e => by cases e; exact Nat.le_refl _)
      have hget := MV.get (MV.below H2.out hb3) (Go.Maps.string_keyed Try.underlying9) Try.underlying27 (zero_int _) hkey
      have heq : (g2 (.string x) != g1 (.string x)) = false := by rw [HG.out]; simp
      have HLT := Lib.hid hlt3
      clear hz3 hlt3 hkey hkl
      unfold encStr at hnx hen hget
      go_wp2
      go_roundw
      case rel => exact ⟨_, hr3, hb3⟩
      case measure => exact HLT.out
end Go.Proofs.Ytefbedineniejaa
