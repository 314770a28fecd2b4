/- Joined: RpK, RpT, RpA. -/
import Derived.Test.YtpbbbiifeihkaaaGreatDoorMvS
import Derived.Test.YtpbbbiifeihkaaaGreatDoorCaQn
import Derived.Test.YtpbbbiifeihkaaaGreatDoorDelE
import Derived.Test.YtpbbbiifeihkaaaGreatDoorCsTc
import Derived.Test.YtpbbbiifeihkaaaGreatDoorBkN

/- RpK: slices.Sorted(maps.Keys(m)) at maps of layers and of changes. -/
section
namespace Go.Proofs.YtpbbbiifeihkaaaGreatDoor
open Go.RowKit
open Go.Maps (Keyed has size Tidy IsMap)
open Go.Proofs (encStr)
set_option linter.unusedVariables false

theorem mapsKeysL_any (b : Nat) (w : World) :
    Calls Tryz.prog 58 #[.map (some b)] w fun e w' => e = .returned (.func (.func 90) #[] #[.pointer (some ⟨w.heap.size, 0, none⟩)]) ∧ w' = w.alloc (.cells #[.map (some b)] 26) :=
  callsIn_wide.1 (Tryz.maps_Keys_58 (some b) w)
theorem sortedKeysL_any (b : Nat) (w : World) (z : Value) (ks : List Lit) (f : Lit → Value) (h : MV Tryz.prog 9 z w b ks f) (hl : ks.length ≤ 1000000) :
    Calls Tryz.prog 57 #[.func (.func 90) #[] #[.pointer (some ⟨w.heap.size, 0, none⟩)]] (w.alloc (.cells #[.map (some b)] 26)) fun e w' =>
      ∃ v, e = .returned v ∧ w'.ownsRow (w.heap.size + 1) 9 1 v (srt ks).length ((srt ks).map encStr) ∧ Below (w.heap.size + 1) (w.alloc (.cells #[.map (some b)] 26)) w' := by
  obtain ⟨D, ho, hs, hp, -⟩ := h.strs (Maps.string_keyed Tryz.underlying9) Tryz.underlying9
  refine (callsIn_wide.1 (Tryz.slices_Sorted_keys_57_58 b ks.length D tokR w ho (by rw [hs]; unfold maxLen; omega) (by rw [hs]; omega))).mono ?_
  rintro e w' ⟨v, ss, rfl, hS, hrow, -, hb⟩
  rw [World.size_alloc] at hrow hb
  have e1 : ss.mergeSort (fun x y => decide (x ≤ y)) = srt ks := mergeSort_of_perm (hS.trans hp.symm)
  rw [e1] at hrow
  have e2 : ss.length = (srt ks).length := by rw [srt_len, (hS.trans hp.symm).length_eq, List.length_map]
  rw [e2] at hrow
  exact ⟨v, rfl, hrow, hb⟩
theorem mapsKeysC_any (b : Nat) (w : World) :
    Calls Tryz.prog 59 #[.map (some b)] w fun e w' => e = .returned (.func (.func 91) #[] #[.pointer (some ⟨w.heap.size, 0, none⟩)]) ∧ w' = w.alloc (.cells #[.map (some b)] 132) :=
  callsIn_wide.1 (Tryz.maps_Keys_59 (some b) w)
theorem sortedKeysC_any (b : Nat) (w : World) (z : Value) (ks : List Lit) (f : Lit → Value) (h : MV Tryz.prog 9 z w b ks f) (hl : ks.length ≤ 1000000) :
    Calls Tryz.prog 57 #[.func (.func 91) #[] #[.pointer (some ⟨w.heap.size, 0, none⟩)]] (w.alloc (.cells #[.map (some b)] 132)) fun e w' =>
      ∃ v, e = .returned v ∧ w'.ownsRow (w.heap.size + 1) 9 1 v (srt ks).length ((srt ks).map encStr) ∧ Below (w.heap.size + 1) (w.alloc (.cells #[.map (some b)] 132)) w' := by
  obtain ⟨D, ho, hs, hp, -⟩ := h.strs (Maps.string_keyed Tryz.underlying9) Tryz.underlying9
  refine (callsIn_wide.1 (Tryz.slices_Sorted_keys_57_59 b ks.length D tokR w ho (by rw [hs]; unfold maxLen; omega) (by rw [hs]; omega))).mono ?_
  rintro e w' ⟨v, ss, rfl, hS, hrow, -, hb⟩
  rw [World.size_alloc] at hrow hb
  have e1 : ss.mergeSort (fun x y => decide (x ≤ y)) = srt ks := mergeSort_of_perm (hS.trans hp.symm)
  rw [e1] at hrow
  have e2 : ss.length = (srt ks).length := by rw [srt_len, (hS.trans hp.symm).length_eq, List.length_map]
  rw [e2] at hrow
  exact ⟨v, rfl, hrow, hb⟩
end Go.Proofs.YtpbbbiifeihkaaaGreatDoor
end

/- RpT: report.until: events up to a day. Keys of what is left behind events. -/
section
namespace Go.Proofs.YtpbbbiifeihkaaaGreatDoor
open Go.RowKit
open Go.Maps (Keyed)
set_option linter.unusedVariables false
set_option linter.unusedSimpArgs false

theorem own_lo {w : World} {b b' e size n : Nat} {v : Value} {xs : List Value} (h : w.ownsRow b e size v n xs) (hb : b' ≤ b) : w.ownsRow b' e size v n xs := by
  obtain ⟨hl, h⟩ := h
  refine ⟨hl, ?_⟩
  rcases h with h | ⟨g, cap, cur, rfl, hB, r⟩
  · exact Or.inl h
  · exact Or.inr ⟨g, cap, cur, rfl, by omega, r⟩
set_option maxHeartbeats 1000000 in
theorem until1_any (e : Evt) (X : Nat) (z : Int) (w : World) (hX : w.cell? ⟨X, 0, none⟩ = some (.int .i64 z)) : Calls Tryz.prog 87 #[e.agg, .pointer (some ⟨X, 0, none⟩)] w fun x w' => x = .returned (.bool (decide (z < e.day))) ∧ Below w.heap.size w w' := by
  obtain ⟨i, s, k, q, p, o, d⟩ := e
  have hl : X < w.heap.size := cell_lt hX
  go_enter Tryz.func87, Tryz.ntmps87
  go_wp2
  go_ret
  exact ⟨rfl, (Below.refl _ w).new _⟩
set_option maxHeartbeats 1000000 in
set_option maxRecDepth 100000 in
theorem until_any (hi : Nat) (v : Value) (es : List Evt) (n : Int) (w : World) (hr : RdE hi w v es) (hh : hi ≤ w.heap.size) (hlen : es.length ≤ 1000) :
    Calls Tryz.prog 56 #[v, .int .i64 n] w fun e w' => ∃ v', e = .returned v' ∧ w'.ownsRow w.heap.size 24 7 v' (upTo n es).length (flE (upTo n es)) ∧ Below w.heap.size w w' := by
  have hb0 := (Below.refl w.heap.size w).new (.cells #[.int .i64 n] 3)
  have HC := Lib.hid (cloneE_any hi v es (w.alloc (.cells #[.int .i64 n] 3)) (hr.below (hb0.mono hh)) (by simp; omega) hlen)
  obtain ⟨a, c, rfl⟩ := hr.shape
  clear hr
  go_enter Tryz.func56, Tryz.ntmps56
  go_wp2_with fail
  refine HC.out.mono ?_
  rintro e w1 ⟨v1, rfl, ho1, hb1⟩
  rw [World.size_alloc] at ho1 hb1
  have hc1 : w1.cell? ⟨w.heap.size, 0, none⟩ = some (.int .i64 n) := (hb1.cell (p := ⟨w.heap.size, 0, none⟩) (by show w.heap.size < _; omega)).trans (by simp)
  have hs1 : w.heap.size + 1 ≤ w1.heap.size := by have := hb1.size; simp at this; omega
  have HD := Lib.hid (delE_any 87 #[.pointer (some ⟨w.heap.size, 0, none⟩)] (fun e => decide (n < e.day)) (w.heap.size + 1) v1 es w1 ho1 hs1 hlen (enters_of Tryz.func87 (by kernel_rfl) rfl) (fun e he W hW => until1_any e _ n W ((hW.cell (p := ⟨w.heap.size, 0, none⟩) (by show w.heap.size < _; omega)).trans hc1)))
  have HB1 : Hid (Below w.heap.size w w1) := Lib.hid (hb0.trans (hb1.mono (by omega)))
  clear ho1 hb1 hb0 HC
  go_wp2_with fail
  refine HD.out.mono ?_
  rintro e w2 ⟨v2, rfl, ho2, hb2⟩
  go_wp2_with fail
  go_ret
  exact ⟨_, rfl, own_lo ho2 (by omega), HB1.out.trans (hb2.mono (by omega))⟩
/-- Whose layers are there has had an event. -/
theorem lay_mem (l : List UInt8) : ∀ (es : List Evt) (st : Stk), (∀ e ∈ es, e.key ≠ l) → (runP st es).2.lay l = st.lay l := by
  intro es
  induction es with
  | nil => intro st _; rfl
  | cons x r ih =>
    intro st h
    rw [runP]
    split
    · rw [show ((oneP st x).1 :: (runP (oneP st x).2 r).1, (runP (oneP st x).2 r).2).2 = (runP (oneP st x).2 r).2 from rfl, ih _ (fun e he => h e (by simp [he])), (one_other st x (fun e => h x (by simp) e.symm)).1]
    · exact ih _ (fun e he => h e (by simp [he]))
theorem end_mem {es : List Evt} {l : List UInt8} (h : (endS es).lay l ≠ []) : l ∈ es.map Evt.key := by
  apply Classical.byContradiction
  intro hn
  refine h (lay_mem l _ stk0 fun e he e2 => hn (List.mem_map.2 ⟨e, (Stb.isort_mem leE_total leE_trans es e).1 he, e2⟩))
/-- The items of which there is something. -/
structure HoldP (es : List Evt) (ks : List (List UInt8)) : Prop where
  nd : ks.Nodup
  mem : ∀ s, s ∈ ks ↔ (endS es).lay s ≠ []
theorem HoldP.len {es : List Evt} {ks : List (List UInt8)} (h : HoldP es ks) : ks.length ≤ es.length := by
  have := List.Nodup.length_le_of_subset h.nd (l₂ := es.map Evt.key) (fun s hs => end_mem ((h.mem s).1 hs))
  simpa using this
/-- A holding, in cells. -/
def hoC (es : List Evt) (k : List UInt8) : List Value := [.string ⟨k.toArray⟩, .int .i64 (whatQ es k).1, .int .i64 (whatQ es k).2]
def hoCells (es : List Evt) (ks : List (List UInt8)) : List Value := ks.flatMap (hoC es)
theorem hoCells_app (es : List Evt) (A B : List (List UInt8)) : hoCells es (A ++ B) = hoCells es A ++ hoCells es B := by simp [hoCells]
theorem one_ho (es : List Evt) (k : List UInt8) : ∀ u ∈ hoC es k, u.oneCell' = true := by
  intro u hu
  simp only [hoC, List.mem_cons, List.not_mem_nil, or_false] at hu
  rcases hu with rfl | rfl | rfl <;> rfl
end Go.Proofs.YtpbbbiifeihkaaaGreatDoor
end

/- RpA: report.At: holdings at a day's end. -/
section
namespace Go.Proofs.YtpbbbiifeihkaaaGreatDoor
open Go.RowKit
open Go.Maps (Keyed)
open Go.Proofs (encStr)
set_option linter.unusedVariables false
set_option linter.unusedSimpArgs false

theorem info_ho : (Tryz.prog.info? 74).map (fun i => (i.zero, i.size, i.bytes)) = some (some (.agg #[.string ⟨#[]⟩, .int .i64 0, .int .i64 0]), 3, 32) := by kernel_rfl
theorem Kept.keys {w : World} {bl : Nat} {es : List Evt} (h : Kept w bl (endS es).lay) : ∃ ks f, MV Tryz.prog 9 (.slice none 0 0) w bl ks f ∧ HoldP es (srt ks) ∧ ∀ s ∈ srt ks, s.length ≤ maxLen := by
  obtain ⟨ks, f, h1, h2, h3⟩ := h
  obtain ⟨D, -, -, -, hstr⟩ := h1.strs (Maps.string_keyed Tryz.underlying9) Tryz.underlying9
  have hmem : ∀ s, s ∈ srt ks ↔ Lit.string s ∈ ks := by
    intro s
    rw [(srt_perm ks).mem_iff, List.mem_map]
    constructor
    · rintro ⟨x, hx, rfl⟩
      obtain ⟨t, rfl, -⟩ := hstr x hx
      exact hx
    · intro hx; exact ⟨_, hx, rfl⟩
  refine ⟨ks, f, h1, ⟨?_, fun s => ?_⟩, fun s hs => ?_⟩
  · refine List.Nodup.perm ?_ (srt_perm ks).symm
    refine (List.pairwise_map).2 (h1.nd.imp_of_mem fun {x y} hx hy hne e => hne ?_)
    obtain ⟨s, rfl, _⟩ := hstr x hx
    obtain ⟨t, rfl, _⟩ := hstr y hy
    exact congrArg Lit.string e
  · rw [hmem]
    constructor
    · intro hx
      obtain ⟨l, e, hl⟩ := h3 _ hx
      injection e with e
      rw [e]; exact hl
    · intro hl
      apply Classical.byContradiction
      intro hn
      have := h2 s
      rw [h1.zero _ hn] at this
      obtain ⟨a, c, e1, -⟩ := this
      injection e1 with e1 e2 e3
      exact hl (List.length_eq_zero_iff.1 e2.symm)
  · obtain ⟨t, e, ht⟩ := hstr _ ((hmem s).1 hs)
    injection e with e
    rw [e]; exact ht
set_option maxHeartbeats 4000000 in
set_option maxRecDepth 100000 in
theorem at_any (B : Nat) (b : Bk) (n t : Int) (w : World) (h : BkW w B b) (hI : BkI b) :
    Calls Tryz.prog 26 #[.pointer (some ⟨B, 0, none⟩), .int .i64 n, .int .i64 t] w fun e w' => ∃ v ks, e = .returned v ∧ HoldP (upTo n (b.as t)) ks ∧ w'.ownsRow w.heap.size 74 3 v ks.length (hoCells (upTo n (b.as t)) ks) ∧ Below w.heap.size w w' := by
  have HAS := Lib.hid (as_any B b t w h hI)
  have hlen := as_le hI t
  have HOK := Lib.hid (as_ok hI t).1
  clear h
  obtain ⟨M, hM⟩ : ∃ M, M = b.as t := ⟨_, rfl⟩
  rw [← hM] at HAS hlen HOK ⊢
  clear hM
  have hul : (upTo n M).length ≤ 120 := Nat.le_trans (List.length_filter_le _ _) hlen
  have HUK : Hid (∀ e ∈ upTo n M, e.right = true) := Lib.hid (fun e he => (HOK.out e (List.mem_filter.1 he).1).2.2)
  have HU := Lib.hid (fun v1 w1 (ho : RdE w1.heap.size w1 v1 M) => until_any w1.heap.size v1 M n w1 ho (Nat.le_refl _) (by omega))
  obtain ⟨L, hL⟩ : ∃ L, L = upTo n M := ⟨_, rfl⟩
  rw [← hL] at hul HUK ⊢
  simp only [← hL] at HU
  clear hL
  obtain ⟨i0, hinf, hiz, his, hib⟩ := info_parts info_ho
  go_enter Tryz.func26, Tryz.ntmps26
  go_wp2_with fail
  refine HAS.out.mono ?_
  rintro e w1 ⟨v1, rfl, ho1, hb1⟩
  have HB1 := Lib.hid hb1
  have hr1 := rdE_of_own ho1 rfl
  clear ho1 hb1
  go_wp2_with fail
  refine (HU.out _ _ hr1).mono ?_
  rintro e w2 ⟨v2, rfl, ho2, hb2⟩
  have HB2 := Lib.hid (HB1.out.step hb2)
  have hr2 := rdE_of_own ho2 rfl
  obtain ⟨xa2, xc2, rfl⟩ := own_slice ho2
  have HR := Lib.hid (run_any xa2 _ xc2 L w2 hr2 (by omega) (fun e he => by have := (right_bd (HUK.out e he)).1; omega))
  clear ho2 hb2 hr2 HU HAS hr1
  go_wp2_with fail
  refine HR.out.mono ?_
  rintro e w3 ⟨va, bl, rfl, hol, hk, hbl, hb3⟩
  have HB3 := Lib.hid (HB2.out.step hb3)
  obtain ⟨ya, yc, rfl⟩ := own_slice hol
  have HK := Lib.hid hk
  obtain ⟨ks, f, hmv, hhp, hkl⟩ := hk.keys
  have hksl := hhp.len
  clear hk hol hb3 HR
  have hsl : (srt ks).length = ks.length := srt_len ks
  go_wp2_with fail
  have hvx : ∃ a n c, Value.slice ya (runP stk0 (Stb.isort leE L)).1.length yc = .slice a n c := ⟨_, _, _, rfl⟩
  generalize Value.slice ya (runP stk0 (Stb.isort leE L)).1.length yc = va at hvx ⊢
  have HVX := Lib.hid hvx
  clear hvx
  obtain ⟨W4, hW4⟩ : ∃ W4, W4 = w3.alloc (.cells #[va, .map (some bl)] 30) := ⟨_, rfl⟩
  have hX4 : W4.heap[w3.heap.size]? = some (.cells #[va, .map (some bl)] 30 (0, 0)) := by rw [hW4]; exact World.alloc_heap_new _ _
  have hb34 : Below w3.heap.size w3 W4 := by rw [hW4]; exact (Below.refl _ _).new _
  have HZ4 : Hid (W4.heap.size = w3.heap.size + 1) := Lib.hid (by rw [hW4]; simp)
  rw [← hW4]
  clear hW4
  refine (mapsKeysL_any bl _).mono ?_
  rintro e w4 ⟨rfl, rfl⟩
  have HS := Lib.hid (sortedKeysL_any bl W4 _ ks f (hmv.below hb34) (by omega))
  go_wp2_with fail
  refine HS.out.mono ?_
  rintro e w5 ⟨v5, rfl, ho5, hb5⟩
  have hb45 : Below W4.heap.size W4 w5 := ((Below.refl _ W4).new (.cells #[.map (some bl)] 26)).trans (hb5.mono (by omega))
  have hX5 : w5.heap[w3.heap.size]? = some (.cells #[va, .map (some bl)] 30 (0, 0)) := (hb45.block _ (by have := HZ4.out; omega)).trans hX4
  have HB5 := Lib.hid (hb34.step hb45)
  have HK5 := Lib.hid (HK.out.below HB5.out)
  obtain ⟨a5, c5, rfl⟩ := own_slice ho5
  have HO5 := Lib.hid ho5
  have HHP := Lib.hid hhp
  have HKL := Lib.hid hkl
  have HGD := Lib.hid (fun l => end_good L (by omega) l)
  have HX5 := Lib.hid hX5
  have hXl : w3.heap.size < w5.heap.size := (Array.getElem?_eq_some_iff.1 hX5).1
  clear hX4 hb34 HZ4 hmv hb5 hb45 hX5 HS HK ho5 hhp hkl
  obtain ⟨ss, hss⟩ : ∃ ss, ss = srt ks := ⟨_, rfl⟩
  rw [← hss] at HO5 HHP HKL hksl hsl ⊢
  clear hss hsl
  generalize w3.heap.size = X at HX5 hXl ⊢
  have HBB := Lib.hid (HB3.out.step HB5.out)
  go_wp2_with fail
  go_loopg [8, 24] ss.length (fun kx v8 i wr => ∃ k : Nat, k ≤ ss.length ∧ i = .int .i64 k ∧ ss.length - k ≤ kx ∧ wr.ownsRow w5.heap.size 74 3 v8 k (hoCells L (ss.take k)) ∧ Hid (Below w5.heap.size w5 wr))
  case atStart => exact ⟨0, by omega, rfl, by omega, World.ownsRow_nil _ _ _ _, Lib.hid (Below.refl _ _)⟩
  case round =>
    obtain ⟨k, hk, rfl, hkx, ho, HBR⟩ := hrel
    by_cases hlt : k < ss.length
    · have hltz : (k : Int) < (ss.length : Int) := by omega
      obtain ⟨g5, c5', e5, hg5, hcs⟩ := own1_cell HO5.out k (by simpa using hlt) (by simp)
      injection e5 with e1 e2 e3
      subst e1 e3
      have hcw : wr.cell? ⟨g5, k, none⟩ = some (encStr ss[k]) := (HBR.out.cell (p := ⟨g5, k, none⟩) (cell_lt hcs)).trans (by simpa using hcs)
      unfold encStr at hcw
      have hXw := (HBR.out.block X hXl).trans HX5.out
      have x0 : wr.cell? ⟨X, 0, none⟩ = some va := by simp [World.cell?, hXw]
      have x1 : wr.cell? ⟨X, 1, none⟩ = some (.map (some bl)) := by simp [World.cell?, hXw]
      obtain ⟨s, hs⟩ : ∃ s, s = ss[k] := ⟨_, rfl⟩
      have hss1 := HKL.out _ (List.getElem_mem hlt)
      have HTK : Hid (hoCells L (ss.take (k + 1)) = hoCells L (ss.take k) ++ hoC L s) := Lib.hid (by
        rw [List.take_succ_eq_append_getElem hlt, hoCells_app, hs]; simp [hoCells])
      rw [← hs] at hcw hss1
      have HSM := Lib.hid (sum_any va bl (endS L).lay ⟨s.toArray⟩ wr HVX.out (HK5.out.below HBR.out) (by show s.toArray.size ≤ maxLen; simpa using hss1) (by simpa using (HGD.out s).1) (by have := (HGD.out s).2; simp only; omega))
      have hbd := what_bd L s
      simp only [whatQ, lsQ] at hbd
      clear hcs hXw hs hss1
      have hrw := HBR.out.size
      have HOW := Lib.hid ho
      clear ho
      simp only [List.toList_toArray] at HSM
      generalize hq : sumQ ((endS L).lay s) = q at HSM hbd
      generalize hv : sumV ((endS L).lay s) = v at HSM hbd
      have HHC : Hid (hoC L s = [.string ⟨s.toArray⟩, .int .i64 q, .int .i64 v]) := Lib.hid (by simp only [hoC, whatQ, lsQ, hq, hv])
      clear hq hv
      go_wp2_with fail
      refine HSM.out.mono ?_
      rintro e w6 ⟨rfl, hb6⟩
      have ho6 := own_below HOW.out hb6
      have HB6 := Lib.hid (HBR.out.step hb6)
      have hs6 := hb6.size
      clear hb6 HSM
      go_wp2_with (at_builtin; refine wpList_append_own _ rfl (.tmp 34) (.tmp 39) 71 rfl w5.heap.size 74 i0 (.agg #[.string ⟨#[]⟩, .int .i64 0, .int .i64 0]) 3 32 Tryz.underlying71 hinf hiz his hib rfl (by decide) _ k (hoCells L (ss.take k)) rfl (ho6.alloc _) ⟨w6.heap.size, 0, none⟩ 1 1 [.string ⟨s.toArray⟩, .int .i64 q, .int .i64 v] rfl rfl ?cells (fun u hu => by rw [← HHC.out] at hu; exact one_ho L s u hu) (by unfold maxLen; omega) (by omega) (by simp; omega) ?app)
      case cells => exact cells_at (World.alloc_heap_new _ _)
      case app =>
        intro v7 w7 ho7 hg7 _
        have HB7 := Lib.hid ((HB6.out.new _).owngrown (ho6.alloc _) hg7)
        have HO7 := Lib.hid ho7
        obtain ⟨xa, xc, rfl⟩ := own_slice ho7
        clear ho7 hg7 ho6
        go_wp2_with fail
        go_roundg (ss.length - (k + 1))
        case measure => omega
        case rel => exact ⟨k + 1, hlt, by first | rfl | go_num | (congr 1; omega), Nat.le_refl _, by rw [HTK.out, HHC.out]; exact HO7.out, HB7⟩
    · have hltz : ¬ (k : Int) < (ss.length : Int) := by omega
      have hke : k = ss.length := by omega
      subst hke
      have HOW := Lib.hid ho
      clear ho
      go_wp2_with fail
      go_ret
      have h1 := HOW.out
      rw [List.take_length] at h1
      exact ⟨_, rfl, ss, HHP.out, own_lo h1 HBB.out.size, HBB.out.step HBR.out⟩
end Go.Proofs.YtpbbbiifeihkaaaGreatDoor
end
