/- CostRuns: the law's own walk. -/
import Derived.Test.YtpbbbiifeihkaaaGreatDoorRuE
import Derived.Test.YtpbbbiifeihkaaaGreatDoorCrA
namespace Go.Proofs.YtpbbbiifeihkaaaGreatDoor
open Go.RowKit
open Go.Maps (Keyed)
open Go.WideMaps
open Go.Proofs (encStr)
set_option linter.unusedVariables false

set_option maxHeartbeats 8000000 in
set_option maxRecDepth 100000 in
theorem costRuns_any (v : Value) (es : List Evt) (w : World) (hw : NW w) (hr : RdE w.heap.size w v es) (hsz : ∀ e ∈ es, e.item.size ≤ 9223372036854775807) (hlen : es.length ≤ 9223372036854775807) :
    Calls Tryz.prog 3 #[v] w (Gives (.bool true) w) := by
  obtain ⟨a, c, rfl⟩ := hr.shape
  by_cases hl : es.length ≤ 60
  case neg =>
    have hlz : (es.length : Int) > 60 := by omega
    clear hr hsz hw
    go_enter Tryz.func3, Tryz.ntmps3
    go_wp2_with fail
    go_ret
    exact ⟨rfl, Below.refl _ _⟩
  have hlz : ¬ (es.length : Int) > 60 := by omega
  have HR := Lib.hid hr
  have HSZ := Lib.hid hsz
  have HNW := Lib.hid hw
  clear hr hsz hw
  go_enter Tryz.func3, Tryz.ntmps3
  go_wp2_with fail
  go_loopg [3] es.length (fun kx i wr => ∃ k : Nat, k ≤ es.length ∧ i = .int .i64 k ∧ es.length - k ≤ kx ∧ wr = w ∧ Hid (∀ j (hj : j < es.length), j < k → es[j].item.size ≤ 60))
  case atStart => exact ⟨0, Nat.zero_le _, rfl, by omega, rfl, fun j _ h => absurd h (by omega)⟩
  case round =>
    obtain ⟨k, hk, rfl, hkx, rfl, HS⟩ := hrel
    by_cases hlt : k < es.length
    · have hltz : (k : Int) < (es.length : Int) := by omega
      obtain ⟨b, off, rfl, -, hcc⟩ := HR.out.seven k hlt
      obtain ⟨-, c1, -⟩ := hcc _ (Below.refl _ _)
      have hs63 := HSZ.out _ (List.getElem_mem hlt)
      have HI := Lib.hid (show es[k].item = es[k].item from rfl)
      obtain ⟨s, hs⟩ : ∃ s, s = es[k].item := ⟨_, rfl⟩
      rw [← hs] at c1 hs63
      have HSI := Lib.hid hs
      clear hcc HI hs
      by_cases hb : 60 < s.size
      · have hbz : (s.size : Int) > 60 := by omega
        go_wp2_with fail
        go_ret
        exact ⟨rfl, Below.refl _ _⟩
      · have hbz : ¬ (s.size : Int) > 60 := by omega
        go_wp2_with fail
        go_roundg (es.length - (k + 1))
        case measure => omega
        case rel =>
          refine ⟨k + 1, hlt, by first | rfl | go_num | (congr 1; omega), Nat.le_refl _, rfl, (show Hid _ from fun j hj hjk => ?_)⟩
          by_cases e : j = k
          · subst e; rw [← HSI.out]; omega
          · exact HS.out j hj (by omega)
    · have hltz : ¬ (k : Int) < (es.length : Int) := by omega
      have hke : k = es.length := by omega
      subst hke
      have hs60 : ∀ e ∈ es, e.item.size ≤ 60 := fun e he => by
        obtain ⟨j, hj, rfl⟩ := List.getElem_of_mem he
        exact HS.out j hj hj
      have H60 := Lib.hid hs60
      clear hs60 HS HSZ
      rename_i wr
      have HREF := Lib.hid (refRun_any a es.length c es _ HR.out (by omega) (fun e he => by have := H60.out e he; omega) HNW.out)
      go_upto_region 9 with (first
        | (go_at_call 7; refine HREF.out.mono ?_; rintro e w1 ⟨va, bl, rfl, hl1, hk1, hblo, hb1⟩; obtain ⟨xa, xc, rfl⟩ := own_slice hl1)
        | (at_builtin; refine wpList_appE rfl (.tmp 33) (.tmp 34) rfl w1.heap.size _ _ _ [] es rfl (own_empty_e w1 _ _ _ (Nat.le_refl _)) rfl ((HR.out.below hb1).below ((Below.refl _ w1).new _ |>.mono hb1.size)) (by simp; omega) (by simp) ?_; intro a2 n2 c2 w2 ho2 hg2; have hb2 : Below w1.heap.size w1 w2 := ((Below.refl _ w1).new (.cells #[] 24)).owngrown (own_empty_e w1 _ 24 7 (Nat.le_refl _)) hg2 (by simp); have hr2 : RdE w2.heap.size w2 (.slice a2 n2 c2) ([] ++ es) := rdE_of_own ho2 rfl)
        | (go_at_call 8; refine (run_any a2 n2 c2 ([] ++ es) w2 hr2 (by simp; omega) (fun e he => by have := H60.out e (by simpa using he); omega)).mono ?_; rintro e w3 ⟨vb, bm, rfl, hl3, hk3, hbmo, hb3⟩; obtain ⟨ya, yc, rfl⟩ := own_slice hl3))
      have hsn := sane_run (Stb.isort leE es) 0 stk0 sane0
      have hrl := runP_len (Stb.isort leE es) stk0
      have hnil := run_nil (Stb.isort leE es) stk0 rfl
      have hil : (Stb.isort leE es).length = es.length := isort_length _ _
      rw [Nat.zero_add, hil] at hsn
      rw [hil] at hrl
      simp only [List.nil_append] at hl3 hk3
      generalize runP stk0 (Stb.isort leE es) = rp at hl1 hk1 hl3 hk3 hsn hrl hnil ⊢
      obtain ⟨lns, st⟩ := rp
      simp only at hl1 hk1 hl3 hk3 hsn hrl hnil ⊢
      have hbA := ((Below.refl _ w3).new (.cells #[.slice xa lns.length xc, .map (some bl)] 28)).new (.cells #[.slice ya lns.length yc, .map (some bm)] 30)
      have hb13 := hb2.step hb3
      have kA := (hk1.below hb13).below hbA
      have kB := hk3.below hbA
      have RA := ((rdN_of_own hl1).below hb13).below hbA
      have RB := (rdN_of_own hl3).below hbA
      have hcQ := World.alloc_heap_new (w3.alloc (.cells #[.slice xa lns.length xc, .map (some bl)] 28)) (.cells #[.slice ya lns.length yc, .map (some bm)] 30)
      have hcP := (Below.heap_alloc (w3.alloc (.cells #[.slice xa lns.length xc, .map (some bl)] 28)) (.cells #[.slice ya lns.length yc, .map (some bm)] 30) w3.heap.size (by simp)).trans (World.alloc_heap_new w3 (.cells #[.slice xa lns.length xc, .map (some bl)] 28))
      rw [World.size_alloc] at hcQ
      have HBW := Lib.hid ((hb1.step hb13).step hbA)
      obtain ⟨W, hW⟩ : ∃ W, W = (w3.alloc (.cells #[.slice xa lns.length xc, .map (some bl)] 28)).alloc (.cells #[.slice ya lns.length yc, .map (some bm)] 30) := ⟨_, rfl⟩
      rw [← hW] at kA kB RA RB hcQ hcP HBW ⊢
      generalize w3.heap.size = P at hcQ hcP ⊢
      clear hW hl1 hk1 hl3 hk3 hbA hb13 hb2 hb3 hb1 hr2 ho2 hg2 HREF hil hblo hbmo
      have kA0 := Lib.hid kA
      have kB0 := Lib.hid kB
      obtain ⟨ks, ks', f, f', hkl, mA, mB, rA, rB, hks⟩ := kept_size kA kB
      have lenA := mA.len Tryz.underlying26
      have lenB := mB.len Tryz.underlying26
      rw [← hkl] at lenB
      have K := Go.Maps.string_keyed (P := Tryz.prog) Tryz.underlying9
      have HMA := Lib.hid mA
      have HRA := Lib.hid rA
      have HA := Lib.hid RA
      have HB := Lib.hid RB
      have HSN := Lib.hid hsn
      have HCP := Lib.hid hcP
      have HCQ := Lib.hid hcQ
      obtain ⟨p0, p1, -, -⟩ := rr_cells hcP
      obtain ⟨q0, q1, -, -⟩ := r_cells hcQ
      have hln : lns.length ≤ 60 := by omega
      have hne1 : ((lns.length : Int) != (lns.length : Int)) = false := by simp
      have hne2 : ((ks.length : Int) != (ks.length : Int)) = false := by simp
      have HNIL := Lib.hid hnil
      clear kA kB mA mB rA rB RA RB hsn hcP hcQ hks hkl hnil
      go_wp2_with fail
      clear lenA lenB p0 p1 q0 q1
      go_loopg [6] lns.length (fun kx i w' => ∃ k q : Nat, k ≤ lns.length ∧ i = .int .i64 k ∧ lns.length - k ≤ kx ∧ w' = W.drewN q)
      case atStart => exact ⟨0, 0, Nat.zero_le _, rfl, by omega, rfl⟩
      case round =>
        obtain ⟨k, q, hk, rfl, hkx, rfl⟩ := hrel
        obtain ⟨p0, p1, -, -⟩ := rr_cells HCP.out
        obtain ⟨q0, q1, -, -⟩ := r_cells HCQ.out
        by_cases hlt : k < lns.length
        · have hltz : (k : Int) < (lns.length : Int) := by omega
          obtain ⟨b1, o1, rfl, hw1, pc⟩ := HA.out k hlt
          obtain ⟨b2, o2, rfl, hw2, qc⟩ := HB.out k hlt
          have a0 := pc 0 _ rfl
          have a1 := pc 1 _ rfl
          have a2 := pc 2 _ rfl
          have a3 := pc 3 _ rfl
          have a4 := pc 4 _ rfl
          have z0 := qc 0 _ rfl
          have z1 := qc 1 _ rfl
          have z2 := qc 2 _ rfl
          have z3 := qc 3 _ rfl
          have z4 := qc 4 _ rfl
          rw [Nat.add_zero] at a0 z0
          clear pc qc
          obtain ⟨x, hx⟩ : ∃ x, x = lns[k] := ⟨_, rfl⟩
          rw [← hx] at a0 a1 a2 a3 a4 z0 z1 z2 z3 z4
          clear hx
          have hs := line_eql x
          go_wp2_with fail
          go_quiet (fail)
          go_wp2_with fail
          go_roundg (lns.length - (k + 1))
          case measure => omega
          case rel => exact ⟨k + 1, _, hlt, by first | rfl | go_num | (congr 1; omega), Nat.le_refl _, rfl⟩
        · have hltz : ¬ (k : Int) < (lns.length : Int) := by omega
          have hbq : Below W.heap.size W (W.drewN q) := below_drewN (Below.refl _ W) q
          have HA1 := Lib.hid ((kA0.out).below hbq)
          have HB1 := Lib.hid ((kB0.out).below hbq)
          have HRA1 : Hid (∀ l, RdY (W.drewN q) (f (.string l)) (st.lay l)) := fun l => (HRA.out l).below hbq
          have HCP1 := Lib.hid ((hbq.block _ (Array.getElem?_eq_some_iff.1 HCP.out).1).trans HCP.out)
          have HCQ1 := Lib.hid ((hbq.block _ (Array.getElem?_eq_some_iff.1 HCQ.out).1).trans HCQ.out)
          have HMA1 := Lib.hid (HMA.out.below hbq)
          have HBW1 := Lib.hid (HBW.out.step hbq)
          have p0' : (W.drewN q).cell? ⟨P, 1, none⟩ = some (.map (some bl)) := (rr_cells HCP1.out).2.1
          have q0' : (W.drewN q).cell? ⟨P + 1, 0, none⟩ = some (.slice ya lns.length yc) := (r_cells HCQ1.out).1
          clear HMA HRA kA0 kB0 HCP HCQ HBW HA HB p0 p1 q0 q1 hbq
          generalize W.drewN q = W2 at HA1 HB1 HRA1 HCP1 HCQ1 HMA1 HBW1 p0' q0' ⊢
          obtain ⟨w1, hrun, hmr, hbr, hzr⟩ := HMA1.out.range K Tryz.underlying26
          have HMR : Aside (MR Tryz.prog 9 (.slice none 0 0) w1 bl W2.heap.size ks f ks) := hmr
          have HBR := Lib.hid hbr
          obtain ⟨r, hr⟩ : ∃ r, r = W2.heap.size := ⟨_, rfl⟩
          rw [← hr] at hrun HMR
          have hrl : W2.heap.size ≤ r := by omega
          clear hr hmr hbr hzr
          go_wp2_with fail
          clear p0' q0' hrun HMA1
          have HGD : Hid (∀ l, GoodY 20000000000000 (st.lay l) ∧ (st.lay l).length ≤ 1000) := fun l => by
            have h1 := HSN.out l
            exact ⟨⟨h1.1.1, by have := h1.1.2; omega⟩, by omega⟩
          clear HSN
          go_loopg [7] ks.length (fun kx _ w' => ∃ rest : List Lit, Aside (MR Tryz.prog 9 (.slice none 0 0) w' bl r ks f rest) ∧ rest.length ≤ kx ∧ Below W2.heap.size W2 w')
          case atStart => exact ⟨ks, HMR, Nat.le_refl _, HBR.out⟩
          case round =>
            clear HMR HBR
            obtain ⟨rest, HM, hkx, hb⟩ := hrel
            rcases HM.out.next K 0 with ⟨rfl, hnx⟩ | ⟨key, kl, w2, hkey, hkr, hnx, hm2, hg2, hz2, -, hen⟩
            · have kB := HB1.out.below hb
              obtain ⟨q0, q1, -, -⟩ := r_cells ((hb.block _ (Array.getElem?_eq_some_iff.1 HCQ1.out).1).trans HCQ1.out)
              have h0 := sum_any (.slice ya lns.length yc) bm st.lay ⟨#[]⟩ _ ⟨_, _, _, rfl⟩ kB (by decide) (HGD.out _).1 (HGD.out _).2
              rw [show (⟨#[]⟩ : ByteArray).data.toList = [] from rfl, HNIL.out] at h0
              have HS0 := Lib.hid h0
              have HBZ := Lib.hid (HBW1.out.step hb)
              clear h0 kB HM
              go_wp2_with (go_at_call 10; refine HS0.out.mono ?_; rintro e w5 ⟨rfl, hb5⟩)
              go_ret
              exact ⟨rfl, HBZ.out.step hb5⟩
            · obtain ⟨x, rfl, rfl, hxl⟩ := Maps.keyOf_str Tryz.underlying9 hkey
              have hb2 : Below W2.heap.size W2 w2 := hb.grown hg2 hb.size (fun k hk => by injection hk with hk; omega)
              obtain ⟨ax, cx, hv, -⟩ := HRA1.out x
              rw [hv] at hnx hen
              have rv : RdY w2 (.slice ax (st.lay x).length cx) (st.lay x) := by rw [← hv]; exact (HRA1.out x).below hb2
              unfold encStr at hnx hen
              have hlen2 : (rest.erase (.string x)).length + 1 = rest.length := by
                have := List.length_erase_of_mem hkr
                have := List.length_pos_of_mem hkr
                omega
              have kA2 := HA1.out.below hb2
              have kB2 := HB1.out.below hb2
              have hgx := HGD.out x
              have hsx : (⟨x.toArray⟩ : ByteArray).size ≤ maxLen := by simpa [ByteArray.size] using hxl
              have HSA : Hid (Calls Tryz.prog 9 #[.agg #[.slice xa lns.length xc, .map (some bl)], .string ⟨x.toArray⟩] w2 fun e w' => e = .returned (.tuple #[.int .i64 (sumQ (st.lay x)), .int .i64 (sumV (st.lay x))]) ∧ Below w2.heap.size w2 w') :=
                refSum_any (.slice xa lns.length xc) bl st.lay ⟨x.toArray⟩ w2 ⟨_, _, _, rfl⟩ (kA2.looks ⟨x.toArray⟩ hsx) hsx hgx.1 hgx.2
              have HSB : Hid (∀ W, Below w2.heap.size w2 W → Calls Tryz.prog 10 #[.agg #[.slice ya lns.length yc, .map (some bm)], .string ⟨x.toArray⟩] W fun e w' => e = .returned (.tuple #[.int .i64 (sumQ (st.lay x)), .int .i64 (sumV (st.lay x))]) ∧ Below W.heap.size W w') := fun W hW =>
                sum_any (.slice ya lns.length yc) bm st.lay ⟨x.toArray⟩ W ⟨_, _, _, rfl⟩ (kB2.below hW) hsx hgx.1 hgx.2
              obtain ⟨vb, hrb, hlkb⟩ := kB2.looks ⟨x.toArray⟩ hsx
              have HLK := Lib.hid hlkb
              have HSL : Hid (∀ W, Below w2.heap.size w2 W → Calls Tryz.prog 11 #[vb, .slice ax (st.lay x).length cx] W (Gives (.bool true) W)) := fun W hW => sameLayers_any (st.lay x) vb _ W hgx.2 (hrb.below hW) (rv.below hW)
              have HP2 := Lib.hid ((hb2.block _ (Array.getElem?_eq_some_iff.1 HCP1.out).1).trans HCP1.out)
              have HQ2 := Lib.hid ((hb2.block _ (Array.getElem?_eq_some_iff.1 HCQ1.out).1).trans HCQ1.out)
              obtain ⟨p0, p1, -, -⟩ := rr_cells HP2.out
              generalize sumQ (st.lay x) = SQ at HSA HSB
              generalize sumV (st.lay x) = SV at HSA HSB
              generalize (st.lay x).length = lx at HSL hnx hen
              have hnq : ((SQ : Int) != SQ) = false := by simp
              have hnv : ((SV : Int) != SV) = false := by simp
              have HM2 : Aside (MR Tryz.prog 9 (.slice none 0 0) w2 bl r ks f (rest.erase (.string x))) := hm2
              have HB2 := Lib.hid hb2
              clear kA2 kB2 hgx hlkb hrb rv hv hm2 hg2 hkey hz2 hb2 hkr hxl hsx
              go_upto_region 20 with (go_at_call 9; refine HSA.out.mono ?_; rintro e w5 ⟨rfl, hb5⟩)
              clear p0 p1
              obtain ⟨q0, q1, -, -⟩ := r_cells ((hb5.block _ (Array.getElem?_eq_some_iff.1 HQ2.out).1).trans HQ2.out)
              go_upto_region 21 with (go_at_call 10; refine (HSB.out _ hb5).mono ?_; rintro e w6 ⟨rfl, hb6⟩)
              clear q0 q1
              have hb26 := hb5.step hb6
              obtain ⟨q0, q1, -, -⟩ := r_cells ((hb26.block _ (Array.getElem?_eq_some_iff.1 HQ2.out).1).trans HQ2.out)
              have hlk6 := HLK.out w6 hb26
              go_wp2_with (go_at_call 11; refine (HSL.out _ hb26).mono ?_; rintro e w7 ⟨rfl, hb7⟩)
              go_roundg (rest.erase (.string x)).length
              case measure => omega
              case rel => exact ⟨_, HM2.out.below (hb26.step hb7), Nat.le_refl _, HB2.out.trans ((hb26.step hb7).mono HB2.out.size)⟩
/-- .. as the row of the law asks it. -/
theorem costRuns_go (v : Value) (es : List Evt) (w : World) (hw : NW w) (hr : RdE w.heap.size w v es) (hb : ∀ e ∈ es, EvBd e) (hl : es.length ≤ maxLen) :
    Calls Tryz.prog 3 #[v] w (Gives (.bool true) w) :=
  costRuns_any v es w hw hr (fun e he => (hb e he).1) hl
end Go.Proofs.YtpbbbiifeihkaaaGreatDoor
