/- period.Months: an event's month's figures, month by month. -/
import Derived.Test.YtackpcohmmlkeaaGreatDoorPrA
import Derived.Test.YtackpcohmmlkeaaGreatDoorPrN
import Derived.Test.YtackpcohmmlkeaaGreatDoorDayI
import Derived.Test.YtackpcohmmlkeaaGreatDoorCaQn
import Derived.Test.YtackpcohmmlkeaaGreatDoorQTail
import Derived.Test.YtackpcohmmlkeaaGreatDoorCsRp
import Derived.Test.YtackpcohmmlkeaaGreatDoorRowM
import Derived.Test.YtackpcohmmlkeaaGreatDoorKh
import Derived.Deep.MidRow
namespace Go.Proofs.YtackpcohmmlkeaaGreatDoor
open Go.RowKit
set_option linter.unusedVariables false
set_option linter.unusedSimpArgs false

theorem info_mn : (Tryz.prog.info? 31).map (fun i => (i.zero, i.size, i.bytes)) = some (some (.agg #[.int .i64 0, .int .i64 0, .int .i64 0, .int .i64 0, .int .i64 0, .int .i64 0]), 6, 48) := by kernel_rfl
/-- A month's cells. -/
def mnC (p : Int × Fg) : List Value := .int .i64 p.1 :: p.2.cells
def flM (ms : List (Int × Fg)) : List Value := ms.flatMap mnC
theorem flM_snoc (ms : List (Int × Fg)) (p : Int × Fg) : flM (ms ++ [p]) = flM ms ++ mnC p := by simp [flM]
theorem flM_len (ms : List (Int × Fg)) : (flM ms).length = ms.length * 6 := by
  induction ms with
  | nil => rfl
  | cons p r ih => simp only [flM, List.flatMap_cons, List.length_append, List.length_cons] at ih ⊢; rw [ih]; simp [mnC, Fg.cells]; omega
theorem flM_get (ms : List (Int × Fg)) (k : Nat) (hk : k < ms.length) (j : Nat) (hj : j < 6) : (flM ms)[k * 6 + j]? = (mnC ms[k])[j]? := by
  induction ms generalizing k with
  | nil => simp at hk
  | cons p r ih =>
    simp only [flM, List.flatMap_cons]
    have hl : (mnC p).length = 6 := rfl
    cases k with
    | zero => rw [List.getElem?_append_left (by omega)]; simp
    | succ k =>
      rw [List.getElem?_append_right (by omega), hl, show (k + 1) * 6 + j - 6 = k * 6 + j by omega]
      exact ih k (by simpa using hk)
theorem one_mn (p : Int × Fg) : ∀ u ∈ mnC p, u.oneCell' = true := by
  intro u hu
  simp only [mnC, Fg.cells, List.mem_cons, List.not_mem_nil, or_false] at hu
  rcases hu with rfl | rfl | rfl | rfl | rfl | rfl <;> rfl
/-- A month's cells, read out of a row of them. -/
theorem own_mn {w : World} {base n : Nat} {xa : Option Addr} {xc : Nat} {ms : List (Int × Fg)} (h : w.ownsRow base 31 6 (.slice xa n xc) n (flM ms)) (k : Nat) (hk : k < ms.length) : ∃ b, xa = some ⟨b, 0, none⟩ ∧ base ≤ b ∧ b < w.heap.size ∧ ∀ W, Below w.heap.size w W →
    W.cell? ⟨b, k * 6, none⟩ = some (.int .i64 ms[k].1) ∧ W.cell? ⟨b, k * 6 + 1, none⟩ = some (.int .i64 ms[k].2.i) ∧ W.cell? ⟨b, k * 6 + 2, none⟩ = some (.int .i64 ms[k].2.o) ∧ W.cell? ⟨b, k * 6 + 3, none⟩ = some (.int .i64 ms[k].2.l) ∧ W.cell? ⟨b, k * 6 + 4, none⟩ = some (.int .i64 ms[k].2.g) ∧ W.cell? ⟨b, k * 6 + 5, none⟩ = some (.int .i64 ms[k].2.t) := by
  have hg : ∀ j, j < 6 → (flM ms)[k * 6 + j]? = (mnC ms[k])[j]? := flM_get ms k hk
  have hn := h.1
  rw [flM_len] at hn
  rcases h.2 with ⟨hv, h0⟩ | ⟨g, cap, cur, hv, hb, hc, hnc, hm, hs, ht⟩
  · omega
  · injection hv with e1 e2 e3
    subst e1
    refine ⟨g, rfl, hb, (Array.getElem?_eq_some_iff.1 hc).1, fun W hW => ?_⟩
    have hcl : ∀ j, j < 6 → W.cell? ⟨g, k * 6 + j, none⟩ = (mnC ms[k])[j]? := by
      intro j hj
      rw [hW.cell (p := ⟨g, k * 6 + j, none⟩) (Array.getElem?_eq_some_iff.1 hc).1, ← hg j hj, ← ht, List.getElem?_take_of_lt (by omega)]
      simp [World.cell?, hc]
    exact ⟨hcl 0 (by omega), hcl 1 (by omega), hcl 2 (by omega), hcl 3 (by omega), hcl 4 (by omega), hcl 5 (by omega)⟩
/-- The last month's figures are written. -/
theorem own_mnset {w : World} {base n g c : Nat} {ms : List (Int × Fg)} {p : Int × Fg} (h : w.ownsRow base 31 6 (.slice (some ⟨g, 0, none⟩) n c) n (flM (ms ++ [p]))) (f : Fg) :
    (w.setCells g (ms.length * 6 + 1) f.cells).ownsRow base 31 6 (.slice (some ⟨g, 0, none⟩) n c) n (flM (ms ++ [(p.1, f)])) ∧ w.grownBy (w.setCells g (ms.length * 6 + 1) f.cells) (some g) ∧ w.there g (ms.length * 6 + 1) 5 := by
  have hn := h.1
  rw [flM_len, List.length_append, List.length_singleton] at hn
  have hL := flM_len ms
  rcases h.2 with ⟨hv, h0⟩ | ⟨g', cap, cur, hv, hb, hc, hnc, hm, hs, ht⟩
  · omega
  · injection hv with e1 e2 e3
    injection e1 with e1
    injection e1 with e1
    subst e1 e3
    have hh := mid_self (o := ms.length * 6 + 1 + 1 + 1 + 1 + 1) (.int .i64 f.t) (mid_self (o := ms.length * 6 + 1 + 1 + 1 + 1) (.int .i64 f.g) (mid_self (o := ms.length * 6 + 1 + 1 + 1) (.int .i64 f.l) (mid_self (o := ms.length * 6 + 1 + 1) (.int .i64 f.o) (mid_self (o := ms.length * 6 + 1) (.int .i64 f.i) hc))))
    refine ⟨⟨by rw [flM_len, List.length_append, List.length_singleton]; omega, .inr ⟨g, c, _, rfl, hb, hh, hnc, hm, ?_, ?_⟩⟩, setCells_gb _ _ _ _, ?_⟩
    · simp [hs]
    · simp only [Array.toList_setIfInBounds, List.take_set, ht]
      rw [flM_snoc, flM_snoc]
      have hst : ∀ (l : List Value) (j i : Nat) (v : Value), i = ms.length * 6 + j → (flM ms ++ l).set i v = flM ms ++ l.set j v := by
        intro l j i v hi
        rw [List.set_append_right _ _ (by omega), hL, show i - ms.length * 6 = j by omega]
      rw [hst _ 1 _ _ (by omega), hst _ 2 _ _ (by omega), hst _ 3 _ _ (by omega), hst _ 4 _ _ (by omega), hst _ 5 _ _ (by omega)]
      rfl
    · intro j hj
      have hsz : ms.length * 6 + 1 + j < cur.size := by rw [hs]; omega
      constructor
      · simp [World.cell?, hc, hsz]
      · simp [World.frozen?, hc]
theorem cells_atM {w : World} {b : Nat} {cs : List Value} {t : TypeId} {fz : Nat × Nat} (h : w.heap[b]? = some (.cells cs.toArray t fz)) : ∀ j u, cs[j]? = some u → w.cell? ((⟨b, 0, none⟩ : Addr).add j) = some u := by
  intro j u hj
  have e : (⟨b, 0, none⟩ : Addr).add j = ⟨b, j, none⟩ := by simp [Addr.add]; omega
  rw [e]
  simpa [World.cell?, h] using hj
theorem one_fg (f : Fg) : ∀ u ∈ f.cells, u.oneCell' = true := by
  intro u hu
  simp only [Fg.cells, List.mem_cons, List.not_mem_nil, or_false] at hu
  rcases hu with rfl | rfl | rfl | rfl | rfl <;> rfl
theorem First.uniq {es : List Evt} (hU : Uniq es) {x : Evt} (hx : x ∈ es) {z : Int} (h : First (fun e => e.id == x.id) es z) : ∃ k : Nat, ∃ hk : k < es.length, z = k ∧ es[k] = x := by
  rcases h with ⟨-, h⟩ | ⟨k, hk, hz, h, -⟩
  · have := h x hx
    simp at this
  · exact ⟨k, hk, hz, hU.eq (List.getElem_mem hk) hx (by simpa using h)⟩
theorem last_cases (acc : List (Int × Fg)) : acc = [] ∨ ∃ a p, acc = a ++ [p] := by
  cases h : acc.getLast? with
  | none => exact .inl (List.getLast?_eq_none_iff.1 h)
  | some q =>
    obtain ⟨a, ha⟩ := List.getLast?_eq_some_iff.1 h
    exact .inr ⟨a, q, ha⟩
set_option maxHeartbeats 4000000 in
set_option maxRecDepth 100000 in
theorem pmonths_any (a : Option Addr) (n c : Nat) (es : List Evt) (w : World) (hr : RdE w.heap.size w (.slice a n c) es) (hw : DW w) (hlen : es.length ≤ 140) (hR : ∀ e ∈ es, e.right = true) (hD : ∀ e ∈ es, 0 ≤ e.day ∧ e.day ≤ 99999) (hU : Uniq es) :
    Calls Tryz.prog 10 #[.slice a n c] w fun e w' => ∃ v, e = .returned v ∧ w'.ownsRow w.heap.size 31 6 v (monE es).length (flM (monE es)) ∧ Below w.heap.size w w' := by
  have hRN := run_any a n c es w hr hlen (fun e he => by have := (right_bd (hR e he)).1; omega)
  have hML := monE_le es hlen
  have hLB := run_bd (Stb.isort leE es) 0 stk0 sane0
  have hle : (Stb.isort leE es).length = es.length := isort_length _ _
  have hids := run_ids (Stb.isort leE es) stk0 (fun e he => hR e ((Stb.isort_mem leE_total leE_trans es e).1 he))
  have hin : ∀ e ∈ Stb.isort leE es, e ∈ es := fun e he => (Stb.isort_mem leE_total leE_trans es e).1 he
  unfold monE
  generalize Stb.isort leE es = S at hRN hML hLB hle hids hin ⊢
  generalize (runP stk0 S).1 = L at hRN hML hLB hids ⊢
  have hLn : L.length = S.length := by have := congrArg List.length hids; simpa using this
  have hidk : ∀ k (h1 : k < L.length) (h2 : k < S.length), L[k].id = S[k].id := fun k h1 h2 => by
    have := congrArg (fun l => l[k]?) hids
    simpa [List.getElem?_map, List.getElem?_eq_getElem h1, List.getElem?_eq_getElem h2] using this
  have hzl : (S.zip L).length = L.length := by rw [List.length_zip]; omega
  obtain ⟨a', c', hv⟩ := hr.shape
  injection hv with hv1 hv2 hv3
  subst hv2
  clear hv1 hv3
  have HR := Lib.hid hr
  have HRR := Lib.hid hR
  have HRN := Lib.hid hRN
  have HML := Lib.hid hML
  have HLB := Lib.hid hLB
  have HIN := Lib.hid hin
  have HIK := Lib.hid hidk
  have HD := Lib.hid hD
  have HU := Lib.hid hU
  have HW := Lib.hid hw
  clear hr hR hRN hML hLB hin hids hidk hD hU hw
  obtain ⟨i0, hinf, hiz, his, hib⟩ := info_parts info_mn
  go_enter Tryz.func10, Tryz.ntmps10
  go_wp2_with fail
  refine HRN.out.mono ?_
  rintro e w1 ⟨va, bl, rfl, ho1, hk1, hbl, hb1⟩
  obtain ⟨ya, yc, rfl⟩ := own_slice ho1
  have HO1 := Lib.hid ho1
  have HB1 := Lib.hid hb1
  clear ho1 hk1 HRN
  go_wp2_with fail
  go_loopg [3, 16] L.length (fun kx v3 i wr => ∃ k : Nat, k ≤ L.length ∧ i = .int .i64 k ∧ L.length - k ≤ kx ∧ wr.ownsRow w1.heap.size 31 6 v3 (monF ((S.zip L).take k)).length (flM (monF ((S.zip L).take k))) ∧ Hid (Below w1.heap.size w1 wr))
  case atStart => exact ⟨0, by omega, rfl, by omega, World.ownsRow_nil _ _ _ _, Lib.hid ((Below.refl _ _).new _)⟩
  case round =>
    obtain ⟨k, hk, rfl, hkx, ho, HBR⟩ := hrel
    by_cases hlt : k < L.length
    · have hltz : (k : Int) < (L.length : Int) := by omega
      have hltS : k < S.length := by omega
      obtain ⟨bL, hyb, hbL, hlc⟩ := own_ln HO1.out k hlt
      subst hyb
      have hrw := HBR.out.size
      have hbLr : bL < wr.heap.size := by omega
      obtain ⟨l0, l1, l2, l3, l4⟩ := hlc wr HBR.out
      have HLC := Lib.hid hlc
      clear hlc
      have hps : (S.zip L).take (k + 1) = (S.zip L).take k ++ [(S[k], L[k])] := by
        rw [List.take_succ_eq_append_getElem (by rw [hzl]; exact hlt), List.getElem_zip]
      have HST : Hid (monF ((S.zip L).take (k + 1)) = monS (monF ((S.zip L).take k)) S[k] L[k]) := Lib.hid (by rw [hps, monF_snoc])
      have hmem : S[k] ∈ es := HIN.out _ (List.getElem_mem hltS)
      have hacc := HML.out k
      have hacl : (monF ((S.zip L).take k)).length ≤ 140 := Nat.le_trans (monF_len _) (by rw [List.length_take]; omega)
      have hxb := HLB.out L[k] (List.getElem_mem hlt)
      have hid := HIK.out k hlt hltS
      have hright := HRR.out _ hmem
      have hday := HD.out _ hmem
      generalize monF ((S.zip L).take k) = acc at ho HST hacc hacl ⊢
      generalize L[k] = x at l0 l1 l2 l3 l4 HLC HST hxb hid
      obtain ⟨e, he⟩ : ∃ e, e = S[k] := ⟨_, rfl⟩
      rw [← he] at HST hmem hid hright hday
      clear he hps
      have HAC := Lib.hid hacc
      have HXB := Lib.hid hxb
      have HRI := Lib.hid hright
      have HDY := Lib.hid hday
      have HME := Lib.hid hmem
      have HID := Lib.hid hid
      have HO := Lib.hid ho
      have HNX : Hid (u3.ownBlock ≠ some wr.heap.size) := Lib.hid (fun hv => by obtain ⟨-, -, cu, hc⟩ := own_atK ho hv; have := (Array.getElem?_eq_some_iff.1 hc).1; omega)
      have HR1 := Lib.hid ((HR.out.below HB1.out).below (HBR.out.mono HB1.out.size))
      have HRW := Lib.hid (HR.out.below HB1.out)
      clear hacc hxb hright hday hmem hid ho
      have hb4 := (Below.refl wr.heap.size wr).new x.ob
      have hs4 : wr.heap.size ≤ (wr.alloc x.ob).heap.size := hb4.size
      have hX4 := World.alloc_heap_new wr x.ob
      have HIX := Lib.hid (indexE_any 42 #[.pointer (some ⟨wr.heap.size, 0, none⟩)] (fun e' => e'.id == x.id) w.heap.size (.slice a es.length c) es (wr.alloc x.ob) (HR1.out.below (hb4.mono (by have := HB1.out.size; omega))) (by have := HB1.out.size; omega) (by omega) (enters_of Tryz.func42 (by kernel_rfl) rfl)
        (fun e' he' W hW => months1_any e' _ x.id W ((hW.cell (p := ⟨wr.heap.size, 0, none⟩) (by simp)).trans (ln_cells hX4).1)))
      have HB4 := Lib.hid hb4
      clear hb4 hX4 hs4
      go_wp2_with fail
      refine HIX.out.mono ?_
      rintro r w5 ⟨z, rfl, hz, hb5⟩
      rw [HID.out] at hz
      obtain ⟨kk, hkk, rfl, hke⟩ := First.uniq HU.out HME.out hz
      have hb45 := HB4.out.step hb5
      have HB5 := Lib.hid (HBR.out.step hb45)
      have HO5 := Lib.hid (own_below HO.out hb45)
      have hX5 : w5.heap[wr.heap.size]? = some (x.ob) := (hb5.block _ (by simp)).trans (World.alloc_heap_new wr x.ob)
      have HX5 := Lib.hid hX5
      obtain ⟨bE, oE, hye, hbE, hec⟩ := HRW.out.seven kk hkk
      subst hye
      rw [hke] at hec
      have HEC := Lib.hid hec
      obtain ⟨p0, p1, p2, p3, p4, p5, p6⟩ := hec w5 (HB5.out.mono HB1.out.size)
      have hbE5 : bE < w5.heap.size := cell_lt p0
      have hkz : (kk : Int) < (es.length : Int) := by omega
      clear hec hke hz hb5 hX5 HIX
      obtain ⟨y, d, m, hi⟩ := Dy.parts_ex e.day HDY.out.1 HDY.out.2
      have HMO := Lib.hid (month_is e.day y d m w5 ((HW.out.below HB1.out).below HB5.out) HDY.out.1 HDY.out.2 hi)
      have hmo := Dy.moN_is hi
      generalize Dy.mo y m = mo at HMO hmo
      have HMN := Lib.hid hmo
      clear hi hmo
      go_wp2_with fail
      refine HMO.out.mono ?_
      rintro r w6 ⟨rfl, hb6⟩
      have HB46 := Lib.hid (hb45.step hb6)
      have HB6 := Lib.hid (HB5.out.step hb6)
      have HO6 := Lib.hid (own_below HO5.out hb6)
      have hXlt : wr.heap.size < w5.heap.size := (Array.getElem?_eq_some_iff.1 HX5.out).1
      have hX6 : w6.heap[wr.heap.size]? = some (x.ob) := (hb6.block _ hXlt).trans HX5.out
      have HX6 := Lib.hid hX6
      have hbE6 : bE < w6.heap.size := by have := hb6.size; omega
      have hX6l : wr.heap.size < w6.heap.size := (Array.getElem?_eq_some_iff.1 hX6).1
      clear p0 p1 p2 p3 p4 p5 p6 l0 l1 l2 l3 l4 hb6 hb45 HX5 HO5 HB5 HMO hX6 HO HB4 hbE5
      have ho6 := HO6.out
      obtain ⟨oa, oc, rfl⟩ := own_slice ho6
      clear ho6
      rcases last_cases acc with rfl | ⟨a1, q, rfl⟩
      · have HSTA : Hid (monF ((S.zip L).take (k + 1)) = [] ++ [(mo, fg0.plus (ofP e x))]) := Lib.hid (by rw [HST.out, ← HMN.out]; rfl)
        have hz0 : (((([] : List (Int × Fg)).length : Nat) : Int) == 0) = true := rfl
        simp only [List.length_nil] at HO6 hz0 ⊢
        go_wp2_with (at_builtin; refine wpList_append_own _ rfl (.tmp 48) (.tmp 51) 26 rfl w1.heap.size 31 i0 (.agg #[.int .i64 0, .int .i64 0, .int .i64 0, .int .i64 0, .int .i64 0, .int .i64 0]) 6 48 Tryz.underlying26 hinf hiz his hib rfl (by decide) _ 0 (flM []) rfl (HO6.out.alloc _) ⟨w6.heap.size, 0, none⟩ 1 1 (mnC (mo, fg0)) rfl rfl (cells_atM (World.alloc_heap_new w6 (.cells (mnC (mo, fg0)).toArray 31))) (one_mn _) (by first | (unfold maxLen; omega) | simp [maxLen]) (by first | omega | simp) (by first | omega | (simp; omega) | simp) ?app)
        intro v7 w7 ho7 hg7 _
        obtain ⟨a2, ha2⟩ : ∃ a2 : List (Int × Fg), a2 = [] := ⟨_, rfl⟩
        obtain ⟨q2, hq2⟩ : ∃ q2 : Int × Fg, q2 = (mo, fg0) := ⟨_, rfl⟩
        have ho7' : w7.ownsRow w1.heap.size 31 6 v7 (a2.length + 1) (flM (a2 ++ [q2])) := by rw [flM_snoc, ha2, hq2]; first | exact ho7 | (rw [hlen1]; exact ho7)
        have HSTB : Hid (monF ((S.zip L).take (k + 1)) = a2 ++ [(q2.1, q2.2.plus (ofP e x))]) := Lib.hid (by rw [HSTA.out, ha2, hq2]; try rfl)
        have hq2l : q2.2.le 2000000000000000 := by rw [hq2]; exact fg0_le (by omega)
        have ha2l : a2.length ≤ 140 := by rw [ha2]; simp only [List.length_nil, List.length_append, List.length_singleton]; omega
        have HB7 := Lib.hid ((HB6.out.new _).owngrown (HO6.out.alloc _) hg7)
        have hX7 : w7.heap[wr.heap.size]? = some (x.ob) := (hg7.block _ (by rw [World.size_alloc]; omega) (fun h => HNX.out h.symm)).trans ((((Below.refl w6.heap.size w6).new _).block _ hX6l).trans HX6.out)
        clear ho7 hg7 ha2 hq2 HSTA HO6 HB6
        obtain ⟨oa2, oc2, rfl⟩ := own_slice ho7'
        have HO7 := Lib.hid ho7'
        have HX7 := Lib.hid hX7
        clear ho7' hX7
        obtain ⟨g, hg1, hg2, hg3, hgc⟩ := own_mn HO7.out a2.length (by simp)
        subst hg1
        have hq' : (a2 ++ [q2])[a2.length]'(by simp) = q2 := by simp
        rw [hq'] at hgc
        have hn2 : ((a2.length + 1 : Nat) : Int) - 1 = (a2.length : Int) := by omega
        go_wp2_with fail
        have HGC := Lib.hid hgc
        clear hgc hq'
        obtain ⟨g0, g1, g2, g3, g4, g5⟩ := HGC.out w7 (Below.refl _ _)
        obtain ⟨l0, l1, l2, l3, l4, -⟩ := ln_cells HX7.out
        have hX7l : wr.heap.size < w7.heap.size := (Array.getElem?_eq_some_iff.1 HX7.out).1
        obtain ⟨p0, p1, p2, p3, p4, p5, p6⟩ := HEC.out w7 (HB7.out.mono HB1.out.size)
        have hbE7 : bE < w7.heap.size := cell_lt p0
        have hkd : 1 ≤ e.kind ∧ e.kind ≤ 4 := by have := (right_bd HRI.out).2; omega
        have HOF : Hid (∀ W, Calls Tryz.prog 44 #[e.agg, x.agg] W fun r w' => r = .returned (ofP e x).agg ∧ Below W.heap.size W w') := Lib.hid (fun W => of_any e x W hkd)
        have hfl : (ofP e x).le 14000000000000 := ofP_le (by have := HXB.out; omega)
        generalize ofP e x = f at HOF hfl HSTB
        have HPL : Hid (∀ W, Calls Tryz.prog 11 #[q2.2.agg, f.agg] W fun r w' => r = .returned (q2.2.plus f).agg ∧ Below W.heap.size W w') := Lib.hid (fun W => fplus_any q2.2 f W (Fg.le_mono hq2l (by omega)) (Fg.le_mono hfl (by omega)))
        generalize q2.2.plus f = f2 at HPL HSTB
        clear hq2l hfl hkd
        have hcs := fun (p : Since w7) b o h => Since.cells p b o h
        refine wp_region_since_tail 12 (by kernel_rfl) (by kernel_rfl) ?_
        simp only [List.take_succ_cons, List.take_zero, List.drop_succ_cons, List.drop_zero]
        iterate 12 (go_big_quiet_step (first | (with_reducible exact Calls.since_of (HOF.out _)) | (with_reducible exact Calls.since_of (HPL.out _))))
        refine wpQuiet_nil ?_
        intro w8 hw8
        obtain ⟨pp, hp8⟩ := hw8
        have hb8 : Below w7.heap.size w7 w8 := by rw [hp8]; exact pp.h
        clear hp8 pp hcs g0 g1 g2 g3 g4 g5 l0 l1 l2 l3 l4 p0 p1 p2 p3 p4 p5 p6
        obtain ⟨HO9, HG9, HT9⟩ := own_mnset (own_below HO7.out hb8) f2
        have HB9 := Lib.hid ((HB7.out.step hb8).grown HG9 (HB7.out.step hb8).size (fun k hk => by injection hk with hk; omega))
        have HO9' := Lib.hid HO9
        clear HO9
        go_wp2_with ((show Go.wpList _ _ _ ({ op := Go.Op.store _ _ _, .. } :: _) _ _; refine wpList_store_mid rfl 29 (.tmp 71) (.tmp 69) rfl _ (a2.length * 6 + 1) f2.cells.toArray rfl rfl HT9 (by kernel_rfl) (all_oneCell_toArray (one_fg f2)) ?_))
        go_roundg (L.length - (k + 1))
        case measure => omega
        case rel =>
          refine ⟨k + 1, hlt, by first | rfl | go_num | (congr 1; omega), Nat.le_refl _, ?_, HB9⟩
          rw [HSTB.out, List.length_append, List.length_singleton]
          exact HO9'.out
      · have hlen1 : (a1 ++ [q]).length = a1.length + 1 := by simp
        have hn0 : (((a1.length + 1 : Nat) : Int) == 0) = false := by simp; omega
        have hsub : ((a1.length + 1 : Nat) : Int) - 1 = (a1.length : Int) := by omega
        rw [hlen1] at HO6 hacl ⊢
        obtain ⟨g, hg1, hg2, hg3, hgc⟩ := own_mn HO6.out a1.length (by omega)
        subst hg1
        obtain ⟨g0, g1, g2, g3, g4, g5⟩ := hgc w6 (Below.refl _ _)
        have hq : (a1 ++ [q])[a1.length]'(by omega) = q := by simp
        rw [hq] at g0 g1 g2 g3 g4 g5
        by_cases hqm : q.1 = mo
        · have HSTA : Hid (monF ((S.zip L).take (k + 1)) = a1 ++ [(q.1, q.2.plus (ofP e x))]) := Lib.hid (by rw [HST.out]; unfold monS; rw [List.getLast?_concat]; simp only; rw [if_pos (by rw [HMN.out]; exact hqm), List.dropLast_concat])
          have hqn : (q.1 != mo) = false := by simp [hqm]
          go_wp2_with fail
          obtain ⟨a2, rfl⟩ : ∃ a2, a2 = a1 := ⟨_, rfl⟩
          obtain ⟨q2, rfl⟩ : ∃ q2, q2 = q := ⟨_, rfl⟩
          obtain ⟨w7, rfl⟩ : ∃ w7, w7 = w6 := ⟨_, rfl⟩
          have hq2l := HAC.out q2 (by simp)
          have ha2l : a2.length ≤ 140 := by omega
          have HSTB := HSTA
          have hX7w := HX6
          have HO7 := HO6
          have HX7 := HX6
          have HB7 := HB6
          obtain ⟨oc2, rfl⟩ : ∃ oc2, oc2 = oc := ⟨_, rfl⟩
          clear HO6 HX6 HB6 g0 g1 g2 g3 g4 g5
          obtain ⟨g', hg1', hg2', hg3', hgc'⟩ := own_mn HO7.out a2.length (by simp)
          have hgg : g' = g := by injection hg1' with h; injection h with h; exact h.symm
          subst hgg
          have hq' : (a2 ++ [q2])[a2.length]'(by simp) = q2 := by simp
          rw [hq'] at hgc'
          clear hgc
          have hgc := hgc'
          clear hgc'
          have HGC := Lib.hid hgc
          clear hgc hq'
          obtain ⟨g0, g1, g2, g3, g4, g5⟩ := HGC.out w7 (Below.refl _ _)
          obtain ⟨l0, l1, l2, l3, l4, -⟩ := ln_cells HX7.out
          have hX7l : wr.heap.size < w7.heap.size := (Array.getElem?_eq_some_iff.1 HX7.out).1
          obtain ⟨p0, p1, p2, p3, p4, p5, p6⟩ := HEC.out w7 (HB7.out.mono HB1.out.size)
          have hbE7 : bE < w7.heap.size := cell_lt p0
          have hkd : 1 ≤ e.kind ∧ e.kind ≤ 4 := by have := (right_bd HRI.out).2; omega
          have HOF : Hid (∀ W, Calls Tryz.prog 44 #[e.agg, x.agg] W fun r w' => r = .returned (ofP e x).agg ∧ Below W.heap.size W w') := Lib.hid (fun W => of_any e x W hkd)
          have hfl : (ofP e x).le 14000000000000 := ofP_le (by have := HXB.out; omega)
          generalize ofP e x = f at HOF hfl HSTB
          have HPL : Hid (∀ W, Calls Tryz.prog 11 #[q2.2.agg, f.agg] W fun r w' => r = .returned (q2.2.plus f).agg ∧ Below W.heap.size W w') := Lib.hid (fun W => fplus_any q2.2 f W (Fg.le_mono hq2l (by omega)) (Fg.le_mono hfl (by omega)))
          generalize q2.2.plus f = f2 at HPL HSTB
          clear hq2l hfl hkd
          have hcs := fun (p : Since w7) b o h => Since.cells p b o h
          refine wp_region_since_tail 12 (by kernel_rfl) (by kernel_rfl) ?_
          simp only [List.take_succ_cons, List.take_zero, List.drop_succ_cons, List.drop_zero]
          iterate 12 (go_big_quiet_step (first | (with_reducible exact Calls.since_of (HOF.out _)) | (with_reducible exact Calls.since_of (HPL.out _))))
          refine wpQuiet_nil ?_
          intro w8 hw8
          obtain ⟨pp, hp8⟩ := hw8
          have hb8 : Below w7.heap.size w7 w8 := by rw [hp8]; exact pp.h
          clear hp8 pp hcs g0 g1 g2 g3 g4 g5 l0 l1 l2 l3 l4 p0 p1 p2 p3 p4 p5 p6
          obtain ⟨HO9, HG9, HT9⟩ := own_mnset (own_below HO7.out hb8) f2
          have HB9 := Lib.hid ((HB7.out.step hb8).grown HG9 (HB7.out.step hb8).size (fun k hk => by injection hk with hk; omega))
          have HO9' := Lib.hid HO9
          clear HO9
          go_wp2_with ((show Go.wpList _ _ _ ({ op := Go.Op.store _ _ _, .. } :: _) _ _; refine wpList_store_mid rfl 29 (.tmp 71) (.tmp 69) rfl _ (a2.length * 6 + 1) f2.cells.toArray rfl rfl HT9 (by kernel_rfl) (all_oneCell_toArray (one_fg f2)) ?_))
          go_roundg (L.length - (k + 1))
          case measure => omega
          case rel =>
            refine ⟨k + 1, hlt, by first | rfl | go_num | (congr 1; omega), Nat.le_refl _, ?_, HB9⟩
            rw [HSTB.out, List.length_append, List.length_singleton]
            exact HO9'.out
        · have HSTA : Hid (monF ((S.zip L).take (k + 1)) = (a1 ++ [q]) ++ [(mo, fg0.plus (ofP e x))]) := Lib.hid (by rw [HST.out]; unfold monS; rw [List.getLast?_concat]; simp only; rw [if_neg (by rw [HMN.out]; exact hqm), HMN.out])
          have hqn : (q.1 != mo) = true := by simp [hqm]
          go_wp2_with (at_builtin; (refine wpList_append_own _ rfl (.tmp 48) (.tmp 51) 26 rfl w1.heap.size 31 i0 (.agg #[.int .i64 0, .int .i64 0, .int .i64 0, .int .i64 0, .int .i64 0, .int .i64 0]) 6 48 Tryz.underlying26 hinf hiz his hib rfl (by decide) _ (a1.length + 1) (flM (a1 ++ [q])) rfl (HO6.out.alloc _) ⟨w6.heap.size, 0, none⟩ 1 1 (mnC (mo, fg0)) rfl rfl (cells_atM (World.alloc_heap_new w6 (.cells (mnC (mo, fg0)).toArray 31))) (one_mn _) (by first | (unfold maxLen; omega) | simp [maxLen]) (by first | omega | simp) (by first | omega | (simp; omega) | simp) ?app3))
          intro v7 w7 ho7 hg7 _
          obtain ⟨a2, ha2⟩ : ∃ a2 : List (Int × Fg), a2 = a1 ++ [q] := ⟨_, rfl⟩
          obtain ⟨q2, hq2⟩ : ∃ q2 : Int × Fg, q2 = (mo, fg0) := ⟨_, rfl⟩
          have ho7' : w7.ownsRow w1.heap.size 31 6 v7 (a2.length + 1) (flM (a2 ++ [q2])) := by rw [flM_snoc, ha2, hq2]; first | exact ho7 | (rw [hlen1]; exact ho7)
          have HSTB : Hid (monF ((S.zip L).take (k + 1)) = a2 ++ [(q2.1, q2.2.plus (ofP e x))]) := Lib.hid (by rw [HSTA.out, ha2, hq2]; try rfl)
          have hq2l : q2.2.le 2000000000000000 := by rw [hq2]; exact fg0_le (by omega)
          have ha2l : a2.length ≤ 140 := by rw [ha2]; simp only [List.length_nil, List.length_append, List.length_singleton]; omega
          have HB7 := Lib.hid ((HB6.out.new _).owngrown (HO6.out.alloc _) hg7)
          have hX7 : w7.heap[wr.heap.size]? = some (x.ob) := (hg7.block _ (by rw [World.size_alloc]; omega) (fun h => HNX.out h.symm)).trans ((((Below.refl w6.heap.size w6).new _).block _ hX6l).trans HX6.out)
          clear ho7 hg7 ha2 hq2 HSTA HO6 HB6
          obtain ⟨oa2, oc2, rfl⟩ := own_slice ho7'
          have HO7 := Lib.hid ho7'
          have HX7 := Lib.hid hX7
          clear ho7' hX7
          obtain ⟨g, hg1, hg2, hg3, hgc⟩ := own_mn HO7.out a2.length (by simp)
          subst hg1
          have hq' : (a2 ++ [q2])[a2.length]'(by simp) = q2 := by simp
          rw [hq'] at hgc
          have hn2 : ((a2.length + 1 : Nat) : Int) - 1 = (a2.length : Int) := by omega
          go_wp2_with fail
          have HGC := Lib.hid hgc
          clear hgc hq'
          obtain ⟨g0, g1, g2, g3, g4, g5⟩ := HGC.out w7 (Below.refl _ _)
          obtain ⟨l0, l1, l2, l3, l4, -⟩ := ln_cells HX7.out
          have hX7l : wr.heap.size < w7.heap.size := (Array.getElem?_eq_some_iff.1 HX7.out).1
          obtain ⟨p0, p1, p2, p3, p4, p5, p6⟩ := HEC.out w7 (HB7.out.mono HB1.out.size)
          have hbE7 : bE < w7.heap.size := cell_lt p0
          have hkd : 1 ≤ e.kind ∧ e.kind ≤ 4 := by have := (right_bd HRI.out).2; omega
          have HOF : Hid (∀ W, Calls Tryz.prog 44 #[e.agg, x.agg] W fun r w' => r = .returned (ofP e x).agg ∧ Below W.heap.size W w') := Lib.hid (fun W => of_any e x W hkd)
          have hfl : (ofP e x).le 14000000000000 := ofP_le (by have := HXB.out; omega)
          generalize ofP e x = f at HOF hfl HSTB
          have HPL : Hid (∀ W, Calls Tryz.prog 11 #[q2.2.agg, f.agg] W fun r w' => r = .returned (q2.2.plus f).agg ∧ Below W.heap.size W w') := Lib.hid (fun W => fplus_any q2.2 f W (Fg.le_mono hq2l (by omega)) (Fg.le_mono hfl (by omega)))
          generalize q2.2.plus f = f2 at HPL HSTB
          clear hq2l hfl hkd
          have hcs := fun (p : Since w7) b o h => Since.cells p b o h
          refine wp_region_since_tail 12 (by kernel_rfl) (by kernel_rfl) ?_
          simp only [List.take_succ_cons, List.take_zero, List.drop_succ_cons, List.drop_zero]
          iterate 12 (go_big_quiet_step (first | (with_reducible exact Calls.since_of (HOF.out _)) | (with_reducible exact Calls.since_of (HPL.out _))))
          refine wpQuiet_nil ?_
          intro w8 hw8
          obtain ⟨pp, hp8⟩ := hw8
          have hb8 : Below w7.heap.size w7 w8 := by rw [hp8]; exact pp.h
          clear hp8 pp hcs g0 g1 g2 g3 g4 g5 l0 l1 l2 l3 l4 p0 p1 p2 p3 p4 p5 p6
          obtain ⟨HO9, HG9, HT9⟩ := own_mnset (own_below HO7.out hb8) f2
          have HB9 := Lib.hid ((HB7.out.step hb8).grown HG9 (HB7.out.step hb8).size (fun k hk => by injection hk with hk; omega))
          have HO9' := Lib.hid HO9
          clear HO9
          go_wp2_with ((show Go.wpList _ _ _ ({ op := Go.Op.store _ _ _, .. } :: _) _ _; refine wpList_store_mid rfl 29 (.tmp 71) (.tmp 69) rfl _ (a2.length * 6 + 1) f2.cells.toArray rfl rfl HT9 (by kernel_rfl) (all_oneCell_toArray (one_fg f2)) ?_))
          go_roundg (L.length - (k + 1))
          case measure => omega
          case rel =>
            refine ⟨k + 1, hlt, by first | rfl | go_num | (congr 1; omega), Nat.le_refl _, ?_, HB9⟩
            rw [HSTB.out, List.length_append, List.length_singleton]
            exact HO9'.out
    · have hltz : ¬ (k : Int) < (L.length : Int) := by omega
      have hke : k = L.length := by omega
      subst hke
      rw [show (S.zip L).take L.length = S.zip L from List.take_of_length_le (by omega)] at ho
      have HO := Lib.hid ho
      clear ho
      go_wp2_with fail
      go_ret
      exact ⟨_, rfl, own_base_cK HO.out HB1.out.size, HB1.out.step HBR.out⟩
end Go.Proofs.YtackpcohmmlkeaaGreatDoor
