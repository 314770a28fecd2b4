/- slices.DeleteFunc at events: in a row of the call's own. -/
import Derived.Test.YtpbbbiifeihkaaaGreatDoorBase
import Derived.Test.YtpbbbiifeihkaaaGreatDoorCsPa
import Derived.Test.YtpbbbiifeihkaaaGreatDoorBase2
import Derived.Deep.Upon
import Derived.Test.YtpbbbiifeihkaaaGreatDoorRowM
namespace Go.Proofs.YtpbbbiifeihkaaaGreatDoor
open Go.RowKit
open Go.Maps (Keyed)
set_option linter.unusedVariables false

theorem zero_E : ∀ w, (zeroValue 24).run Tryz.prog w = .ok (.agg #[.int .i64 0, .string ⟨#[]⟩, .int .i64 0, .int .i64 0, .int .i64 0, .int .i64 0, .int .i64 0]) w := fun w => by simp [go_sem]
theorem zeros_E (n : Nat) : (Builtin.zeroCells (Value.cells (.agg #[.int .i64 0, .string ⟨#[]⟩, .int .i64 0, .int .i64 0, .int .i64 0, .int .i64 0, .int .i64 0])) n).toList.length = n * 7 ∧ ∀ v ∈ (Builtin.zeroCells (Value.cells (.agg #[.int .i64 0, .string ⟨#[]⟩, .int .i64 0, .int .i64 0, .int .i64 0, .int .i64 0, .int .i64 0])) n).toList, v.oneCell' = true := by
  simp [Builtin.zeroCells, Value.cells]
  intro i hi
  have : i % 7 < 7 := Nat.mod_lt _ (by decide)
  generalize i % 7 = m at this
  match m, this with
  | 0, _ => rfl
  | 1, _ => rfl
  | 2, _ => rfl
  | 3, _ => rfl
  | 4, _ => rfl
  | 5, _ => rfl
  | 6, _ => rfl
theorem sub_tail_E (b n cap i : Nat) (hi : i < n) (hn : n ≤ cap) (w : World) : (Instr.slice 22 (.slice (some ⟨b, 0, none⟩) n cap) (some (.int .i64 i)) none none).run Tryz.prog w = .ok (.slice (some ⟨b, i * 7, none⟩) (n - i) (cap - i)) w := by
  have hz : ∀ w, (sizeOf 24).run Tryz.prog w = .ok 7 w := fun w => by simp [go_sem]
  have h1 : ¬ cap - i = 0 := by omega
  have h2 : ((i : Int) ≤ (n : Int)) := by omega
  go_simp
  intro h
  omega
set_option maxHeartbeats 2000000 in
set_option maxRecDepth 100000 in
theorem delE_any (g : Nat) (cb : Array Value) (p : Evt → Bool) (base : Nat) (v : Value) (es : List Evt) (w : World) (ho : w.ownsRow base 24 7 v es.length (flE es)) (hB : base ≤ w.heap.size) (hlen : es.length ≤ 1000) (eg : ∀ args w, (callFunc g args).run Tryz.prog w = .ok (.enter g args) w)
    (hf : ∀ e ∈ es, ∀ W, Below base w W → Calls Tryz.prog g (#[e.agg] ++ cb) W fun x w' => x = .returned (.bool (p e)) ∧ Below W.heap.size W w') :
    Calls Tryz.prog 61 #[v, .func (.func g) #[] cb] w fun e w' => ∃ v', e = .returned v' ∧ w'.ownsRow base 24 7 v' (es.filter fun x => !p x).length (flE (es.filter fun x => !p x)) ∧ Below base w w' := by
  have HX := Lib.hid (indexE_any g cb p _ v es w (rdE_of_own ho rfl) (Nat.le_refl _) hlen eg (fun e he W hW => hf e he W (hW.mono hB)))
  have HO := Lib.hid ho
  obtain ⟨xa, xc, rfl⟩ := own_slice ho
  have HF := Lib.hid hf
  clear ho hf
  go_enter Tryz.func61, Tryz.ntmps61
  go_wp2_with fail
  refine HX.out.mono ?_
  rintro e w1 ⟨z, rfl, hz, hb1⟩
  rcases hz with ⟨rfl, hall⟩ | ⟨k, hk, rfl, hpk, hbef⟩
  · have hfil : (es.filter fun x => !p x) = es := List.filter_eq_self.2 fun x hx => by rw [hall x hx]; rfl
    have HFI := Lib.hid hfil
    clear hall hfil
    go_wp2_with fail
    go_ret
    rw [HFI.out]
    exact ⟨_, rfl, own_below HO.out hb1, hb1.mono hB⟩
  · have hne1 : (((k : Nat) : Int) == -1) = false := beq_eq_false_iff_ne.2 (by omega)
    rcases HO.out.2 with ⟨-, h0⟩ | ⟨b, cap, cur, e1, hbb, hc, hn, hm, hsz, ht⟩
    · omega
    injection e1 with e1 e2 e3
    subst e1 e3
    have hs7 : es.length * 7 ≤ cur.size := by rw [hsz]; exact Nat.mul_le_mul_right 7 hn
    have hD := DI.start (W := w1) (n := k) (fun (x : Evt) => (rfl : x.cells.length = 7)) hbb hc ht hs7 (by omega) hb1 hB
    have hkeep : (es.filter fun x => !p x) = es.take k ++ ((es.drop (k + 1)).filter fun x => !p x) := by
      have e0 : es = es.take k ++ (es[k] :: es.drop (k + 1)) := by rw [List.getElem_cons_drop]; exact (List.take_append_drop k es).symm
      conv => lhs; rw [e0]
      rw [List.filter_append, List.filter_cons, if_neg (by rw [hpk]; simp), List.filter_eq_self.2 fun x hx => by
        obtain ⟨j, hj, rfl⟩ := List.getElem_of_mem hx
        rw [List.getElem_take, hbef j (by rw [List.length_take] at hj; omega)]; rfl]
    have HKP : Hid ((es.filter fun x => !p x) = es.take k ++ ((es.drop (k + 1)).filter fun x => !p x)) := Lib.hid hkeep
    have hlk : (es.take k).length = k := by rw [List.length_take]; omega
    have HD0 := Lib.hid hD.drop
    have HLK := Lib.hid hlk
    have HS7 := Lib.hid hs7
    have hsz2 : cur.size = xc * 7 := hsz
    have HSZ := Lib.hid hsz2
    clear hD hkeep hlk hs7 hpk hbef hc ht hsz hsz2 hb1 HX
    have z7 := zero_E
    go_wp2_with fail
    go_loopg [5, 6] es.length (fun kx s5 s6 wr => ∃ (i j : Nat) (kept : List Evt), s5 = .int .i64 i ∧ s6 = .int .i64 j ∧ kept.length = i ∧ i < j ∧ j ≤ es.length ∧ es.length - j ≤ kx ∧ Hid (es.filter (fun x => !p x) = kept ++ ((es.drop j).filter fun x => !p x)) ∧ Hid (DI 24 Evt.cells 7 base b cur.size w wr es kept j))
    case atStart => exact ⟨k, k + 1, es.take k, rfl, by go_num, HLK.out, by omega, by omega, by omega, HKP, HD0⟩
    case round =>
      obtain ⟨i, j, kept, rfl, rfl, hki, hij, hj, hkx, HE, HD⟩ := hrel
      have HKI := Lib.hid hki
      clear hki
      by_cases hlt : j < es.length
      · have hltz : (j : Int) < (es.length : Int) := by omega
        have hil : (i : Int) < (es.length : Int) := by omega
        have hrg := HD.out.hi j hlt (Nat.le_refl _)
        obtain ⟨x, hx⟩ : ∃ x, x = es[j] := ⟨_, rfl⟩
        rw [← hx] at hrg
        have HXJ := Lib.hid hx
        have c0 : wr.cell? ⟨b, j * 7, none⟩ = some _ := hrg 0 _ rfl
        have c1 : wr.cell? ⟨b, j * 7 + 1, none⟩ = some _ := hrg 1 _ rfl
        have c2 : wr.cell? ⟨b, j * 7 + 2, none⟩ = some _ := hrg 2 _ rfl
        have c3 : wr.cell? ⟨b, j * 7 + 3, none⟩ = some _ := hrg 3 _ rfl
        have c4 : wr.cell? ⟨b, j * 7 + 4, none⟩ = some _ := hrg 4 _ rfl
        have c5 : wr.cell? ⟨b, j * 7 + 5, none⟩ = some _ := hrg 5 _ rfl
        have c6 : wr.cell? ⟨b, j * 7 + 6, none⟩ = some _ := hrg 6 _ rfl
        have hbw : b < wr.heap.size := cell_lt c0
        clear hrg hx
        have hBw : base ≤ wr.heap.size := Nat.le_trans HD.out.bb (by omega)
        have HW1 := Lib.hid ((HD.out.bel).trans (((Below.refl _ wr).new x.ob).mono hBw))
        have HC := Lib.hid (HF.out x (by rw [HXJ.out]; exact List.getElem_mem hlt) _ HW1.out)
        have HN := Lib.hid (fun (j : Nat) (u : Value) (h : x.cells[j]? = some u) => new_at wr x.cells.toArray 24 j u (by simpa using h))
        cases hp : p x with
        | true =>
          rw [hp] at HC
          have HP := Lib.hid hp
          clear hp
          go_wp2_with (go_at_fn g; refine HC.out.mono ?_; rintro e w2 ⟨rfl, hb2⟩)
          go_roundg (es.length - (j + 1))
          case measure => omega
          case rel =>
            refine ⟨i, j + 1, kept, rfl, by go_num, HKI.out, by omega, by omega, Nat.le_refl _, ?_, ?_⟩
            · show _ = _
              rw [HE.out, List.drop_eq_getElem_cons hlt, List.filter_cons, if_neg (by rw [← HXJ.out, HP.out]; simp)]
            · exact (HD.out.below (((Below.refl _ wr).new x.ob).step hb2) hBw).drop
        | false =>
          rw [hp] at HC
          have HP := Lib.hid hp
          clear hp
          have hlt2 : wr.heap.size < (wr.alloc x.ob).heap.size := by simp
          have HL2 := Lib.hid hlt2
          clear hlt2
          have hpi : i * 7 + 7 ≤ es.length * 7 := by omega
          have HPI := Lib.hid hpi
          clear hpi
          go_wp2_with (first
            | (go_at_fn g; refine HC.out.mono ?_; rintro e w2 ⟨rfl, hb2⟩
               have HD2 := Lib.hid (HD.out.below (((Below.refl _ wr).new x.ob).step hb2) hBw)
               have hbw2 : b < w2.heap.size := by have := hb2.size; simp at this; omega
               have d0 : w2.cell? ⟨wr.heap.size, 0, none⟩ = some _ := (hb2.cell (p := ⟨wr.heap.size, 0, none⟩) HL2.out).trans (HN.out 0 _ rfl)
               have d1 : w2.cell? ⟨wr.heap.size, 1, none⟩ = some _ := (hb2.cell (p := ⟨wr.heap.size, 1, none⟩) HL2.out).trans (HN.out 1 _ rfl)
               have d2 : w2.cell? ⟨wr.heap.size, 2, none⟩ = some _ := (hb2.cell (p := ⟨wr.heap.size, 2, none⟩) HL2.out).trans (HN.out 2 _ rfl)
               have d3 : w2.cell? ⟨wr.heap.size, 3, none⟩ = some _ := (hb2.cell (p := ⟨wr.heap.size, 3, none⟩) HL2.out).trans (HN.out 3 _ rfl)
               have d4 : w2.cell? ⟨wr.heap.size, 4, none⟩ = some _ := (hb2.cell (p := ⟨wr.heap.size, 4, none⟩) HL2.out).trans (HN.out 4 _ rfl)
               have d5 : w2.cell? ⟨wr.heap.size, 5, none⟩ = some _ := (hb2.cell (p := ⟨wr.heap.size, 5, none⟩) HL2.out).trans (HN.out 5 _ rfl)
               have d6 : w2.cell? ⟨wr.heap.size, 6, none⟩ = some _ := (hb2.cell (p := ⟨wr.heap.size, 6, none⟩) HL2.out).trans (HN.out 6 _ rfl)
               obtain ⟨o0, s0⟩ : ∃ o, w2.cell? ⟨b, i * 7, none⟩ = some o := Option.isSome_iff_exists.1 (HD2.out.there (i * 7) 7 (Nat.le_trans HPI.out HS7.out) 0 (by decide)).1
               have f0 : w2.frozen? ⟨b, i * 7, none⟩ = false := (HD2.out.there (i * 7) 7 (Nat.le_trans HPI.out HS7.out) 0 (by decide)).2
               obtain ⟨o1, s1⟩ : ∃ o, w2.cell? ⟨b, i * 7 + 1, none⟩ = some o := Option.isSome_iff_exists.1 (HD2.out.there (i * 7) 7 (Nat.le_trans HPI.out HS7.out) 1 (by decide)).1
               have f1 : w2.frozen? ⟨b, i * 7 + 1, none⟩ = false := (HD2.out.there (i * 7) 7 (Nat.le_trans HPI.out HS7.out) 1 (by decide)).2
               obtain ⟨o2, s2⟩ : ∃ o, w2.cell? ⟨b, i * 7 + 2, none⟩ = some o := Option.isSome_iff_exists.1 (HD2.out.there (i * 7) 7 (Nat.le_trans HPI.out HS7.out) 2 (by decide)).1
               have f2 : w2.frozen? ⟨b, i * 7 + 2, none⟩ = false := (HD2.out.there (i * 7) 7 (Nat.le_trans HPI.out HS7.out) 2 (by decide)).2
               obtain ⟨o3, s3⟩ : ∃ o, w2.cell? ⟨b, i * 7 + 3, none⟩ = some o := Option.isSome_iff_exists.1 (HD2.out.there (i * 7) 7 (Nat.le_trans HPI.out HS7.out) 3 (by decide)).1
               have f3 : w2.frozen? ⟨b, i * 7 + 3, none⟩ = false := (HD2.out.there (i * 7) 7 (Nat.le_trans HPI.out HS7.out) 3 (by decide)).2
               obtain ⟨o4, s4⟩ : ∃ o, w2.cell? ⟨b, i * 7 + 4, none⟩ = some o := Option.isSome_iff_exists.1 (HD2.out.there (i * 7) 7 (Nat.le_trans HPI.out HS7.out) 4 (by decide)).1
               have f4 : w2.frozen? ⟨b, i * 7 + 4, none⟩ = false := (HD2.out.there (i * 7) 7 (Nat.le_trans HPI.out HS7.out) 4 (by decide)).2
               obtain ⟨o5, s5⟩ : ∃ o, w2.cell? ⟨b, i * 7 + 5, none⟩ = some o := Option.isSome_iff_exists.1 (HD2.out.there (i * 7) 7 (Nat.le_trans HPI.out HS7.out) 5 (by decide)).1
               have f5 : w2.frozen? ⟨b, i * 7 + 5, none⟩ = false := (HD2.out.there (i * 7) 7 (Nat.le_trans HPI.out HS7.out) 5 (by decide)).2
               obtain ⟨o6, s6⟩ : ∃ o, w2.cell? ⟨b, i * 7 + 6, none⟩ = some o := Option.isSome_iff_exists.1 (HD2.out.there (i * 7) 7 (Nat.le_trans HPI.out HS7.out) 6 (by decide)).1
               have f6 : w2.frozen? ⟨b, i * 7 + 6, none⟩ = false := (HD2.out.there (i * 7) 7 (Nat.le_trans HPI.out HS7.out) 6 (by decide)).2))
          have HD3 := HD2.out.keep (fun (x : Evt) => (rfl : x.cells.length = 7)) hlt (by have := HKI.out; omega) HS7.out
          rw [HKI.out, ← HXJ.out] at HD3
          have HD4 := Lib.hid HD3
          clear HD3
          go_roundg (es.length - (j + 1))
          case measure => omega
          case rel =>
            refine ⟨i + 1, j + 1, kept ++ [x], by go_num, by go_num, by rw [List.length_append, HKI.out]; rfl, by omega, by omega, Nat.le_refl _, ?_, HD4.out⟩
            show _ = _
            rw [HE.out, List.drop_eq_getElem_cons hlt, List.filter_cons, if_pos (by rw [← HXJ.out, HP.out]; rfl), ← HXJ.out]
            simp
      · have hltz : ¬ ((j : Int) < (es.length : Int)) := by omega
        have hje : j = es.length := by omega
        subst hje
        have hfe : es.filter (fun x => !p x) = kept := by rw [HE.out, List.drop_length]; simp
        have HFE := Lib.hid hfe
        obtain ⟨hz1, hz2⟩ := zeros_E (es.length - i)
        have hth : wr.there b (i * 7) (Builtin.zeroCells (Value.cells (.agg #[.int .i64 0, .string ⟨#[]⟩, .int .i64 0, .int .i64 0, .int .i64 0, .int .i64 0, .int .i64 0])) (es.length - i)).toList.length := HD.out.there _ _ (by rw [hz1]; have := HS7.out; omega)
        have hcl := run_clearK (P := Tryz.prog) wr 22 24
        have hcl := fun ty => run_clearK (P := Tryz.prog) wr 22 24 ty (.agg #[.int .i64 0, .string ⟨#[]⟩, .int .i64 0, .int .i64 0, .int .i64 0, .int .i64 0, .int .i64 0]) Tryz.underlying22 (zero_E) b (i * 7) (es.length - i) (xc - i) (by omega) hz2 hth
        have hsb := sub_tail_E b es.length xc i hij hn
        have hsl := fun w => slice_sl_to (P := Tryz.prog) 22 Tryz.underlying22 7 (fun w => by simp [go_sem]) (some ⟨b, 0, none⟩) es.length xc i i rfl (by omega) w
        generalize (Builtin.zeroCells (Value.cells (.agg #[.int .i64 0, .string ⟨#[]⟩, .int .i64 0, .int .i64 0, .int .i64 0, .int .i64 0, .int .i64 0])) (es.length - i)).toList = vs at hcl
        have HDE := Lib.hid (HD.out.behind (fun (x : Evt) => (rfl : x.cells.length = 7)) vs)
        rw [HKI.out] at HDE
        clear hfe hz1 hz2 hth
        go_wp2_with fail
        go_ret
        rw [HFE.out]
        have hki := HKI.out
        subst hki
        exact ⟨_, rfl, HDE.out.own (fun (x : Evt) => (rfl : x.cells.length = 7)) xc HSZ.out (by omega) hm, HDE.out.bel⟩
end Go.Proofs.YtpbbbiifeihkaaaGreatDoor
