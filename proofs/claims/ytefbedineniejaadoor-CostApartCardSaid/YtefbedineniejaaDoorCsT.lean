/- Joined: CsS, CsT. -/
import Derived.Test.YtefbedineniejaaDoorCsR
import Derived.Laws.StructEq
import Derived.LoopTactic

/- CsS: Events cloned; layers alike; lines alike; which event is late. -/
section
namespace Go.Proofs.YtefbedineniejaaDoor
open Go.RowKit
open Go.Maps (Keyed)
set_option linter.unusedVariables false

theorem addr_div (b off j m : Nat) : (⟨b, off, none⟩ : Addr).add j = ⟨b, off + j / m * m + j % m, none⟩ := by
  have := Nat.div_add_mod' j m
  rw [Nat.add_assoc, this]
  simp [Addr.add]
theorem rdE_cells {hi : Nat} {w : World} {ad : Addr} {n c : Nat} {es : List Evt} (h : RdE hi w (.slice (some ad) n c) es) (j : Nat) (u : Value) (hu : (flE es)[j]? = some u) : w.cell? (ad.add j) = some u := by
  rcases h with ⟨h, -⟩ | ⟨b, off, cap, hv, hb, hc⟩
  · cases h
  · injection hv with hv
    cases hv
    rw [flE_get] at hu
    by_cases hi : j / 7 < es.length
    · rw [List.getElem?_eq_getElem hi, Option.bind_some] at hu
      have := hc (j / 7) hi (j % 7) u hu
      rw [addr_div b off j 7]
      exact this
    · rw [List.getElem?_eq_none (by omega)] at hu
      cases hu
theorem rdE_of_own {w : World} {base n : Nat} {v : Value} {es : List Evt} (h : w.ownsRow base 50 7 v n (flE es)) (hn : n = es.length) : RdE w.heap.size w v es := by
  subst hn
  rcases h.2 with ⟨rfl, h0⟩ | ⟨g, cap, cur, rfl, hB, hc, hn, hm, hs, ht⟩
  · exact .inl ⟨rfl, List.length_eq_zero_iff.1 h0⟩
  · exact rdE_of_holds (holds_of_own hc ht) (Array.getElem?_eq_some_iff.1 hc).1
theorem own_empty_e (w : World) (base : Nat) (e : TypeId) (size : Nat) (hb : base ≤ w.heap.size) : (w.alloc (.cells #[] e)).ownsRow base e size (.slice (some ⟨w.heap.size, 0, none⟩) 0 0) 0 [] :=
  ⟨by simp, Or.inr ⟨w.heap.size, 0, #[], rfl, hb, by show (w.heap.push _)[w.heap.size]? = _; simp, by omega, by simp [maxLen], by simp, by simp⟩⟩
theorem one_flE (es : List Evt) : ∀ u ∈ flE es, u.oneCell' = true := by
  intro u hu
  simp only [flE, List.mem_flatMap] at hu
  obtain ⟨p, -, hp⟩ := hu
  exact one_evt p u hp
set_option maxHeartbeats 1000000 in
set_option maxRecDepth 100000 in
theorem cloneE_any (hi : Nat) (v : Value) (es : List Evt) (w : World) (h : RdE hi w v es) (hh : hi ≤ w.heap.size) (hl : es.length ≤ 1000) :
    Calls Tryd.prog 22 #[v] w fun e w' => ∃ v', e = .returned v' ∧ w'.ownsRow w.heap.size 50 7 v' es.length (flE es) ∧ Below w.heap.size w w' := by
  obtain ⟨i0, hinf, hiz, his, hib⟩ := info_parts info_evt
  have h' := h
  rcases h' with ⟨rfl, rfl⟩ | ⟨b, off, cap, rfl, hb, hc⟩
  · clear h
    go_enter Tryd.func22, Tryd.ntmps22
    have k0 := fun (w : World) => Lib.run_eql_slice_nil (P := Tryd.prog) w
    go_wp2
    go_ret
    exact ⟨_, rfl, World.ownsRow_nil _ _ _ _, Below.refl _ _⟩
  · have HCS := Lib.hid (rdE_cells (h.below (((Below.refl _ w).new (.cells #[] 50)).mono hh)))
    clear h hc
    have k0 := fun (w : World) => Lib.run_eql_slice_nil (P := Tryd.prog) w 37 50 (some ⟨b, off, none⟩) es.length cap 0 0 Tryd.underlying37
    go_enter Tryd.func22, Tryd.ntmps22
    go_wp2_with (first
      | (at_builtin; refine wpList_append_own _ rfl (.tmp 5) (.tmp 6) 37 rfl w.heap.size 50 i0 (.agg #[.int .i64 0, .string ⟨#[]⟩, .int .i64 0, .int .i64 0, .int .i64 0, .int .i64 0, .int .i64 0]) 7 64 Tryd.underlying37 hinf hiz his hib rfl (by decide) _ 0 [] rfl (own_empty_e _ _ _ _ (Nat.le_refl _)) ⟨b, off, none⟩ es.length cap (flE es) rfl (flE_len es) HCS.out (one_flE es) (by unfold maxLen; omega) (by omega) (by simp) ?_; intro v2 w2 hown2 hg2 _))
    go_ret
    refine ⟨v2, rfl, ?_, ((Below.refl _ w).new _).owngrown (own_empty_e _ _ 50 7 (Nat.le_refl _)) hg2 (by simp)⟩
    simpa using hown2
theorem lay_eql (x y z x' y' z' : Int) (b : Bool) (hb : b = (x == x' && (y == y' && z == z'))) (w : World) :
    (Op.equalIn 10000 58 (.agg #[.int .i64 x, .int .i64 y, .int .i64 z]) (.agg #[.int .i64 x', .int .i64 y', .int .i64 z'])).run Tryd.prog w = .ok b w := by
  have u3 := Tryd.underlying3
  have a3 := Tryd.isAgg3
  have z3 := Tryd.sizeOf3
  have hS : Tryd.prog.underlying 58 = some (.struct (Tryd.prog.fieldsOf 58)) := by kernel_rfl
  have hp : Tryd.prog.stoodInHeld 58 = false := by kernel_rfl
  rw [show (10000 : Nat) = 9999 + 1 from rfl, run_equalIn_agg w 9999 58 _ _ hS hp]
  simp only [Program.fieldsOf, Tryd.underlying58]
  subst hb
  go_simp
  (repeat' split) <;> simp_all
set_option maxHeartbeats 1000000 in
set_option maxRecDepth 100000 in
/-- slices.Equal at layers that are alike. -/
theorem equalY_same (ls : List Lay) (v1 v2 : Value) (w : World) (hL : ls.length ≤ 1000) (h1 : RdY w v1 ls) (h2 : RdY w v2 ls) :
    Calls Tryd.prog 23 #[v1, v2] w (Gives (.bool true) w) := by
  obtain ⟨a, c1, rfl, -⟩ := id h1
  obtain ⟨b, c2, rfl, -⟩ := id h2
  have H1 := Lib.hid h1
  have H2 := Lib.hid h2
  clear h1 h2
  have hne : ((ls.length : Int) != (ls.length : Int)) = false := by simp
  go_enter Tryd.func23, Tryd.ntmps23
  go_wp2
  go_loopw [13] (fun i wr => ∃ k q : Nat, k ≤ ls.length ∧ i = .int .i64 k ∧ wr = w.drewN q) (fun i _ => ls.length - (intOf i).toNat)
  case atStart => exact ⟨0, 0, by omega, rfl, rfl⟩
  case round =>
    obtain ⟨k, q, hk, rfl, rfl⟩ := hrel
    by_cases hlt : k < ls.length
    · obtain ⟨-, b1, o1, rfl, p0, p1, p2⟩ := H1.out.at k hlt
      obtain ⟨-, b2, o2, rfl, q0, q1, q2⟩ := H2.out.at k hlt
      obtain ⟨p, hp⟩ : ∃ p, p = ls[k] := ⟨_, rfl⟩
      rw [← hp] at p0 p1 p2 q0 q1 q2
      clear hp
      have hs := lay_eql p.id p.qty p.val p.id p.qty p.val true (by simp)
      go_wp2
      go_quiet (fail)
      go_wp2
      go_roundw
      case rel => exact ⟨k + 1, _, by omega, by go_num, rfl⟩
      case measure => simp [intOf]; omega
    · go_wp2
      go_ret
      exact ⟨rfl, below_drewN (Below.refl _ _) q⟩
set_option maxHeartbeats 1000000 in
theorem late_any (e : Evt) (w : World) : Calls Tryd.prog 21 #[e.agg] w fun x w' => x = .returned (.bool (e.day == 99999)) ∧ Below w.heap.size w w' := by
  obtain ⟨i, s, k, q, p, o, d⟩ := e
  go_enter Tryd.func21, Tryd.ntmps21
  go_wp2
  go_ret
  exact ⟨by simp, (Below.refl _ w).new _⟩
end Go.Proofs.YtefbedineniejaaDoor
end

/- CsT: told: what three events come to. -/
section
namespace Go.Proofs.YtefbedineniejaaDoor
open Go.RowKit
open Go.Maps (Keyed)
set_option linter.unusedVariables false

def es3 : List Evt := [⟨1, ⟨#[97]⟩, 1, 2, 10, 0, 1⟩, ⟨2, ⟨#[97]⟩, 1, 2, 30, 0, 2⟩, ⟨3, ⟨#[97]⟩, 3, 3, 0, 0, 3⟩]
theorem run3 : (runP stk0 (Stb.isort leE es3)).1 = [⟨1, 20, 0, 0, false⟩, ⟨2, 60, 0, 0, false⟩, ⟨3, 50, 0, 0, false⟩] := by kernel_rfl
theorem lay3 : (runP stk0 (Stb.isort leE es3)).2.lay [97] = [⟨2, 1, 30⟩] := by kernel_rfl
theorem rdE3 (w : World) : RdE (w.heap.size + 1) (w.alloc (.cells (flE es3).toArray 50)) (.slice (some ⟨w.heap.size, 0, none⟩) 3 3) es3 := by
  have e : (w.alloc (.cells (flE es3).toArray 50)).heap.size = w.heap.size + 1 := by simp
  have := rdE_of_holds (w := w.alloc (.cells (flE es3).toArray 50)) (g := w.heap.size) (off := 0) (cap := 3) (es := es3) (holds_of_own (World.alloc_heap_new _ _) (by simp [flE, es3, Evt.cells])) (by simp)
  rw [e] at this
  exact this
theorem rdN_cells {w : World} {base n : Nat} {xa : Option Addr} {xc : Nat} {ls : List Ln} (h : w.ownsRow base 54 5 (.slice xa n xc) n (flN ls)) (j : Nat) (hj : j < (flN ls).length) : ∃ b, xa = some ⟨b, 0, none⟩ ∧ base ≤ b ∧ ∀ W, Below w.heap.size w W → ∀ j u, (flN ls)[j]? = some u → W.cell? ⟨b, j, none⟩ = some u := by
  rcases h.2 with ⟨e, h0⟩ | ⟨g, cap, cur, e, hB, hc, hn, hm, hs, ht⟩
  · exact absurd h.1 (by subst h0; omega)
  · injection e with e1 e2; subst e1
    refine ⟨g, rfl, hB, fun W hW j u hu => ?_⟩
    rw [hW.cell (p := ⟨g, j, none⟩) (Array.getElem?_eq_some_iff.1 hc).1]
    have hjl : j < (flN ls).length := (List.getElem?_eq_some_iff.1 hu).1
    rw [← ht, List.getElem?_take_of_lt (by rw [h.1] at hjl; exact hjl), Array.getElem?_toList] at hu
    simpa [World.cell?, hc] using hu
theorem new_res (w : World) (x y : Value) : (w.alloc (.cells #[x, y] 43)).cell? ⟨w.heap.size, 0, none⟩ = some x ∧ (w.alloc (.cells #[x, y] 43)).cell? ⟨w.heap.size, 1, none⟩ = some y := by
  constructor <;> (simp only [World.cell?, World.alloc_heap_new]; rfl)
theorem told_mid {w : World} {W : World} (hb0 : Below w.heap.size w W) (w2 : World) (xa : Option Addr) (xc bl : Nat) (ho : w2.ownsRow W.heap.size 54 5 (.slice xa 3 xc) 3 (flN [⟨1, 20, 0, 0, false⟩, ⟨2, 60, 0, 0, false⟩, ⟨3, 50, 0, 0, false⟩])) (hk : Kept w2 bl (runP stk0 (Stb.isort leE es3)).2.lay) (hb : Below W.heap.size W w2) :
    ∃ W1, Hid (W1 = w2.alloc (.cells #[.slice xa 3 xc, .map (some bl)] 43)) ∧
      Hid (∀ W, Below W1.heap.size W1 W → ∃ b off, xa = some ⟨b, off, none⟩ ∧ W.cell? ⟨w2.heap.size, 0, none⟩ = some (.slice xa 3 xc) ∧ W.cell? ⟨w2.heap.size, 1, none⟩ = some (.map (some bl)) ∧ W.cell? ⟨b, off + 10 + 1, none⟩ = some (.int .i64 50)) ∧
      Hid (Below w.heap.size w W1) ∧ Hid (Calls Tryd.prog 19 #[.agg #[.slice xa 3 xc, .map (some bl)], .string ⟨#[97]⟩] W1 fun e w' => e = .returned (.tuple #[.int .i64 1, .int .i64 30]) ∧ Below W1.heap.size W1 w') := by
  have h1 : Below w2.heap.size w2 (w2.alloc (.cells #[.slice xa 3 xc, .map (some bl)] 43)) := (Below.refl _ w2).new _
  refine ⟨_, rfl, fun W' hW' => ?_, (hb0.step hb).step h1, ?_⟩
  · obtain ⟨b, rfl, hB, hc⟩ := rdN_cells ho 0 (by decide)
    refine ⟨b, 0, rfl, ?_, ?_, ?_⟩
    · rw [hW'.cell (p := ⟨w2.heap.size, 0, none⟩) (by simp)]
      exact (new_res w2 _ _).1
    · rw [hW'.cell (p := ⟨w2.heap.size, 1, none⟩) (by simp)]
      exact (new_res w2 _ _).2
    · exact hc W' (h1.trans (hW'.mono h1.size)) 11 _ rfl
  · have hs := sane_run (Stb.isort leE es3) 0 stk0 sane0 [97]
    have hl : (Stb.isort leE es3).length = 3 := isort_length _ _
    rw [hl] at hs
    have := sum_any (.slice xa 3 xc) bl _ ⟨#[97]⟩ _ ⟨_, _, _, rfl⟩ (hk.below h1) (by decide) (hs.1.mono (by omega)) (by have := hs.2.1; show ((runP stk0 (Stb.isort leE es3)).2.lay [97]).length ≤ 1000; omega)
    simp only [lay3] at this
    exact this
set_option maxHeartbeats 1000000 in
set_option maxRecDepth 100000 in
theorem told_any (w : World) : Calls Tryd.prog 15 #[] w fun x w' => x = .returned (.bool true) ∧ Below w.heap.size w w' := by
  have R3 := rdE3 w
  have hsz : (w.alloc (.cells (flE es3).toArray 50)).heap.size = w.heap.size + 1 := by simp
  rw [← hsz] at R3
  have HR := Lib.hid (run_any _ _ _ es3 _ R3 (by decide) (by decide))
  have HB0 : Hid (Below w.heap.size w (w.alloc (.cells (flE es3).toArray 50))) := Lib.hid ((Below.refl _ w).new _)
  clear R3 hsz
  rw [run3] at HR
  simp only [show (flE es3).toArray = #[.int .i64 1, .string ⟨#[97]⟩, .int .i64 1, .int .i64 2, .int .i64 10, .int .i64 0, .int .i64 1, .int .i64 2, .string ⟨#[97]⟩, .int .i64 1, .int .i64 2, .int .i64 30, .int .i64 0, .int .i64 2, .int .i64 3, .string ⟨#[97]⟩, .int .i64 3, .int .i64 3, .int .i64 0, .int .i64 0, .int .i64 3] from rfl] at HR HB0
  go_enter Tryd.func15, Tryd.ntmps15
  go_wp2_with (first
    | (go_at_call 17; refine HR.out.mono ?_; rintro e w2 ⟨va, bl, rfl, ho, hk, hbl, hb2⟩; obtain ⟨xa, xc, rfl⟩ := own_slice ho; obtain ⟨W1, HW1, HC1, HBW, HS⟩ := told_mid HB0.out w2 xa xc bl ho hk hb2)
    | (go_at_call 19; rw [← HW1.out]; refine HS.out.mono ?_; rintro e w3 ⟨rfl, hb3⟩; obtain ⟨b, off, rfl, c0, c1, c11⟩ := HC1.out w3 hb3; replace hb3 := Lib.hid hb3))
  go_ret
  exact ⟨rfl, HBW.out.step hb3.out⟩
end Go.Proofs.YtefbedineniejaaDoor
end
