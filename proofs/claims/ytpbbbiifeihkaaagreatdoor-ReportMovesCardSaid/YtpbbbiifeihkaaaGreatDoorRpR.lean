/- Joined: RpE, RpR. -/
import Derived.Test.YtpbbbiifeihkaaaGreatDoorRpD
import Derived.Test.YtpbbbiifeihkaaaGreatDoorEvQ
import Derived.Test.YtpbbbiifeihkaaaGreatDoorQTail
import Derived.Test.YtpbbbiifeihkaaaGreatDoorBkN

/- RpE: Holdings that are alike; finding one; reported: the law's own fact. -/
section
namespace Go.Proofs.YtpbbbiifeihkaaaGreatDoor
open Go.RowKit
open Go.Maps (Keyed)
set_option linter.unusedVariables false
set_option linter.unusedSimpArgs false

theorem ho_eql (s s' : ByteArray) (q v q' v' : Int) (b : Bool) (hb : b = (s.toList == s'.toList && (q == q' && v == v'))) (w : World) :
    (Op.equalIn 10000 74 (.agg #[.string s, .int .i64 q, .int .i64 v]) (.agg #[.string s', .int .i64 q', .int .i64 v'])).run Tryz.prog w = .ok b w := by
  have u3 := Tryz.underlying3
  have a3 := Tryz.isAgg3
  have z3 := Tryz.sizeOf3
  have u9 := Tryz.underlying9
  have a9 := Tryz.isAgg9
  have z9 := Tryz.sizeOf9
  have hS : Tryz.prog.underlying 74 = some (.struct (Tryz.prog.fieldsOf 74)) := by kernel_rfl
  have hp : Tryz.prog.stoodInHeld 74 = false := by kernel_rfl
  rw [show (10000 : Nat) = 9999 + 1 from rfl, run_equalIn_agg w 9999 74 _ _ hS hp]
  simp only [Program.fieldsOf, Tryz.underlying74]
  subst hb
  go_simp
  (repeat' split) <;> simp_all
theorem ho_same (s : ByteArray) (q v : Int) (w : World) : (Op.equalIn 10000 74 (.agg #[.string s, .int .i64 q, .int .i64 v]) (.agg #[.string s, .int .i64 q, .int .i64 v])).run Tryz.prog w = .ok true w :=
  ho_eql s s q v q v true (by simp) w
set_option maxHeartbeats 1000000 in
set_option maxRecDepth 100000 in
/-- One holding and the same one. -/
theorem equalH_one (g1 g2 c1 c2 : Nat) (s : ByteArray) (q v : Int) (w : World) (x0 : w.cell? ⟨g1, 0, none⟩ = some (.string s)) (x1 : w.cell? ⟨g1, 1, none⟩ = some (.int .i64 q)) (x2 : w.cell? ⟨g1, 2, none⟩ = some (.int .i64 v))
    (y0 : w.cell? ⟨g2, 0, none⟩ = some (.string s)) (y1 : w.cell? ⟨g2, 1, none⟩ = some (.int .i64 q)) (y2 : w.cell? ⟨g2, 2, none⟩ = some (.int .i64 v)) :
    Calls Tryz.prog 54 #[.slice (some ⟨g1, 0, none⟩) 1 c1, .slice (some ⟨g2, 0, none⟩) 1 c2] w (Gives (.bool true) w) := by
  have hs := ho_same s q v
  go_enter Tryz.func54, Tryz.ntmps54
  go_wp2
  go_loopw [13] (fun i wr => ∃ k q : Nat, k ≤ 1 ∧ i = .int .i64 k ∧ wr = w.drewN q) (fun i _ => 1 - (intOf i).toNat)
  case atStart => exact ⟨0, 0, by omega, rfl, rfl⟩
  case round =>
    obtain ⟨k, n, hk, rfl, rfl⟩ := hrel
    by_cases hlt : k < 1
    · obtain rfl : k = 0 := by omega
      go_wp2
      go_quiet (fail)
      go_wp2
      go_roundw
      case rel => exact ⟨1, _, by omega, by first | rfl | go_num, rfl⟩
      case measure => simp [intOf]
    · obtain rfl : k = 1 := by omega
      go_wp2
      go_ret
      exact ⟨rfl, below_drewN (Below.refl _ _) n⟩
/-- The first holding that is so, or none. -/
def FirstH (p : List UInt8 → Bool) (ks : List (List UInt8)) (z : Int) : Prop := (z = -1 ∧ ∀ x ∈ ks, p x = false) ∨ ∃ (k : Nat) (hk : k < ks.length), z = k ∧ p ks[k] = true
set_option maxHeartbeats 1000000 in
set_option maxRecDepth 100000 in
theorem indexH_any (g : Nat) (cb : Array Value) (p : List UInt8 → Bool) (base : Nat) (v : Value) (es : List Evt) (ks : List (List UInt8)) (w : World) (hr : w.ownsRow base 74 3 v ks.length (hoCells es ks)) (hlen : ks.length ≤ 1000) (eg : ∀ args w, (callFunc g args).run Tryz.prog w = .ok (.enter g args) w)
    (hf : ∀ s ∈ ks, ∀ W, Below w.heap.size w W → Calls Tryz.prog g (#[.agg #[.string ⟨s.toArray⟩, .int .i64 (whatQ es s).1, .int .i64 (whatQ es s).2]] ++ cb) W fun x w' => x = .returned (.bool (p s)) ∧ Below W.heap.size W w') :
    Calls Tryz.prog 33 #[v, .func (.func g) #[] cb] w fun e w' => ∃ z, e = .returned (.int .i64 z) ∧ FirstH p ks z ∧ Below w.heap.size w w' := by
  have HR := Lib.hid hr
  obtain ⟨a, c, rfl⟩ := own_slice hr
  have HF := Lib.hid hf
  clear hr hf
  go_enter Tryz.func33, Tryz.ntmps33
  go_wp2_with fail
  go_loopg [8] ks.length (fun kx i wr => ∃ k : Nat, k ≤ ks.length ∧ i = .int .i64 k ∧ ks.length - k ≤ kx ∧ Hid (∀ j (hj : j < k) (h2 : j < ks.length), p ks[j] = false) ∧ Hid (Below w.heap.size w wr))
  case atStart => exact ⟨0, by omega, rfl, by omega, Lib.hid (fun j hj => absurd hj (by omega)), Lib.hid (Below.refl _ _)⟩
  case round =>
    obtain ⟨k, hk, rfl, hkx, HN, HB⟩ := hrel
    by_cases hlt : k < ks.length
    · have hltz : (k : Int) < (ks.length : Int) := by omega
      obtain ⟨g', cap, e, -, x0, x1, x2⟩ := ho_at (own_below HR.out HB.out) rfl k hlt
      injection e with e1 e2 e3
      subst e1
      clear e2 e3
      have HC := Lib.hid (HF.out _ (List.getElem_mem hlt) wr HB.out)
      by_cases hp : p ks[k] = true
      · have HP := Lib.hid hp
        rw [hp] at HC
        clear hp
        generalize hs : ks[k] = s at x0 x1 x2 HC
        clear hs
        go_wp2_with fail
        refine HC.out.mono ?_
        rintro e w2 ⟨rfl, hb2⟩
        go_wp2_with fail
        go_ret
        exact ⟨_, rfl, .inr ⟨k, hlt, rfl, HP.out⟩, HB.out.step hb2⟩
      · have HP := Lib.hid hp
        rw [Bool.not_eq_true] at hp
        rw [hp] at HC
        clear hp
        generalize hs : ks[k] = s at x0 x1 x2 HC
        clear hs
        go_wp2_with fail
        refine HC.out.mono ?_
        rintro e w2 ⟨rfl, hb2⟩
        go_wp2_with fail
        go_roundg (ks.length - (k + 1))
        case measure => omega
        case rel =>
          refine ⟨k + 1, hlt, by first | rfl | go_num | (congr 1; omega), Nat.le_refl _, (show Hid _ from fun j hj h2 => ?_), Lib.hid (HB.out.step hb2)⟩
          by_cases e : j = k
          · subst e; have := HP.out; rw [Bool.not_eq_true] at this; exact this
          · exact HN.out j (by omega) h2
    · have hltz : ¬ (k : Int) < (ks.length : Int) := by omega
      go_wp2_with fail
      go_ret
      refine ⟨_, rfl, .inl ⟨rfl, fun x hx => ?_⟩, HB.out⟩
      obtain ⟨j, hj, rfl⟩ := List.getElem_of_mem hx
      exact HN.out j (by omega) hj
end Go.Proofs.YtpbbbiifeihkaaaGreatDoor
end

/- RpR: reported: the law's own fact. -/
section
namespace Go.Proofs.YtpbbbiifeihkaaaGreatDoor
open Go.RowKit
set_option linter.unusedVariables false
set_option linter.unusedSimpArgs false

abbrev eR : Evt := ⟨0, ⟨#[97]⟩, 1, 2, 10, 0, 3⟩
abbrev eR1 : Evt := ⟨1, ⟨#[97]⟩, 1, 2, 10, 0, 3⟩
abbrev bR : Bk := (bk0.post eR).1
theorem bR_post : (bk0.post eR).2 = (1, none) := by decide
theorem bR_I : BkI bR := bkI0.post _
set_option maxRecDepth 100000 in
theorem up2 : upTo 2 (bR.as (-1)) = [] := by kernel_rfl
set_option maxRecDepth 100000 in
theorem up3 : upTo 3 (bR.as (-1)) = [eR1] := by kernel_rfl
set_option maxRecDepth 100000 in
theorem up30 : upTo 3 (bR.as 0) = [] := by kernel_rfl
set_option maxRecDepth 100000 in
theorem up31 : upTo 3 (bR.as 1) = [eR1] := by kernel_rfl
theorem list_one {α : Type} {l : List α} {a : α} (nd : l.Nodup) (h : ∀ s, s ∈ l ↔ s = a) : l = [a] := by
  cases l with
  | nil => exact absurd ((h a).2 rfl) (by simp)
  | cons x r =>
    have hx : x = a := (h x).1 (by simp)
    subst hx
    cases r with
    | nil => rfl
    | cons y r =>
      have hy : y = x := (h y).1 (by simp)
      subst hy
      exact absurd nd (by simp)
theorem lay_nil (s : List UInt8) : (endS []).lay s = [] := rfl
set_option maxRecDepth 100000 in
theorem lay_one : (endS [eR1]).lay = updL (fun _ => []) [97] [⟨1, 2, 20⟩] := by kernel_rfl
set_option maxRecDepth 100000 in
theorem what_one : whatQ [eR1] [97] = (2, 20) := by kernel_rfl
theorem hold_nil {ks : List (List UInt8)} (h : HoldP [] ks) : ks = [] := by
  cases ks with
  | nil => rfl
  | cons x r => exact absurd (lay_nil x) ((h.mem x).1 (by simp))
theorem hold_one {ks : List (List UInt8)} (h : HoldP [eR1] ks) : ks = [[97]] := by
  refine list_one h.nd fun s => ?_
  rw [h.mem, lay_one]
  unfold updL
  by_cases e : s = [97]
  · simp [e]
  · simp [e]
theorem dif_one {D : List (List UInt8)} (h : DifP [] [eR1] D) : D = [[97]] := by
  refine list_one h.nd fun s => ?_
  rw [h.mem]
  have h0 : whatQ [] s = (0, 0) := rfl
  unfold dif
  rw [h0]
  by_cases e : s = [97]
  · subst e
    rw [what_one]
    exact ⟨fun _ => rfl, fun _ => by decide⟩
  · have h1 : whatQ [eR1] s = (0, 0) := by
      unfold whatQ
      rw [lay_one]
      unfold updL
      rw [if_neg e]
      rfl
    rw [h1]
    exact ⟨fun h => absurd rfl h, fun h => absurd h e⟩
set_option maxHeartbeats 4000000 in
set_option maxRecDepth 100000 in
theorem reported_any (w : World) : Calls Tryz.prog 21 #[] w (Gives (.bool true) w) := by
  have HP := Lib.hid (post_any w.heap.size bk0 eR (w.alloc bookOb) (bkW_new w) bkI0 (by decide) (by decide) (by decide))
  rw [bR_post] at HP
  simp only [errB, Evt.agg] at HP
  have HB0 := Lib.hid ((Below.refl w.heap.size w).new bookOb)
  have hB : w.heap.size ≤ w.heap.size := Nat.le_refl _
  go_enter Tryz.func21, Tryz.ntmps21
  go_wp2_with fail
  refine HP.out.mono ?_
  rintro e w1 ⟨rfl, hk1, hc1⟩
  have HK1 : Hid (BkW w1 w.heap.size bR) := Lib.hid hk1
  have HB1 : Hid (Below w.heap.size w w1) := Lib.hid (chBelow hc1 HB0.out hB)
  clear hk1 hc1 HP HB0
  have HA2 := Lib.hid (at_any w.heap.size bR 2 (-1) w1 HK1.out bR_I)
  rw [up2] at HA2
  go_wp2_with fail
  refine HA2.out.mono ?_
  rintro e w2 ⟨v2, ks2, rfl, hh2, ho2, hb2⟩
  obtain rfl := hold_nil hh2
  obtain ⟨a2, c2, rfl⟩ := own_slice ho2
  have HK2 := Lib.hid (HK1.out.below hb2)
  have HB2 := Lib.hid (HB1.out.step hb2)
  have HA3 := Lib.hid (at_any w.heap.size bR 3 (-1) w2 HK2.out bR_I)
  rw [up3] at HA3
  clear hh2 ho2 hb2 HA2
  go_wp2_with fail
  refine HA3.out.mono ?_
  rintro e w3 ⟨v3, ks3, rfl, hh3, ho3, hb3⟩
  obtain rfl := hold_one hh3
  have HK3 := Lib.hid (HK2.out.below hb3)
  have HB3 := Lib.hid (HB2.out.step hb3)
  obtain ⟨g3, c3, rfl, -, x0, x1, x2⟩ := ho_at ho3 rfl 0 (by simp)
  simp only [List.getElem_cons_zero, what_one, Nat.zero_mul, Nat.zero_add] at x0 x1 x2
  have hg3 : g3 < w3.heap.size := cell_lt x0
  clear hh3 ho3 hb3 HA3
  go_wp2_with fail
  have hb4 := (Below.refl w3.heap.size w3).new (.cells #[.string ⟨#[97]⟩, .int .i64 2, .int .i64 20] 74)
  have hX := World.alloc_heap_new w3 (.cells #[.string ⟨#[97]⟩, .int .i64 2, .int .i64 20] 74)
  refine (equalH_one g3 w3.heap.size _ _ ⟨#[97]⟩ 2 20 _ ((hb4.cell (p := ⟨g3, 0, none⟩) hg3).trans x0) ((hb4.cell (p := ⟨g3, 1, none⟩) hg3).trans x1) ((hb4.cell (p := ⟨g3, 2, none⟩) hg3).trans x2) (by simp only [World.cell?, hX]; rfl) (by simp only [World.cell?, hX]; rfl) (by simp only [World.cell?, hX]; rfl)).mono ?_
  rintro e w5 ⟨rfl, hb5⟩
  have HK5 := Lib.hid (HK3.out.below (hb4.step hb5))
  have HB5 := Lib.hid (HB3.out.step (hb4.step hb5))
  have HD := Lib.hid (diff_any w.heap.size bR 3 0 1 w5 HK5.out bR_I)
  rw [up30, up31] at HD
  clear hb4 hX hb5 x0 x1 x2
  go_wp2_with fail
  refine HD.out.mono ?_
  rintro e w6 ⟨v6, D, rfl, hd, ho6, hb6⟩
  obtain rfl := dif_one hd
  obtain ⟨a6, c6, rfl⟩ := own_slice ho6
  have HB6 := Lib.hid (HB5.out.step hb6)
  clear hd ho6 hb6
  go_wp2_with fail
  go_ret
  exact ⟨rfl, HB6.out⟩
end Go.Proofs.YtpbbbiifeihkaaaGreatDoor
end
