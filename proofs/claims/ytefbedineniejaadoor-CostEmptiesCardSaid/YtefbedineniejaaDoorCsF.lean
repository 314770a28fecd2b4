/- The teller charges. -/
import Derived.Test.YtefbedineniejaaDoorCsE
import Derived.StillTailTactics
namespace Go.Proofs.YtefbedineniejaaDoor
open Go.RowKit
open Go.Maps (Keyed)
set_option linter.unusedVariables false

def chargeP : List Lay → Int → Int → Int × List Lay
  | [], _, p => (p, [])
  | x :: r, o, p => if x.id = o then (0, ⟨x.id, x.qty, x.val + p⟩ :: r) else ((chargeP r o p).1, x :: (chargeP r o p).2)
theorem chargeP_no (ls : List Lay) (o p : Int) (h : ∀ x ∈ ls, x.id ≠ o) : chargeP ls o p = (p, ls) := by
  induction ls with
  | nil => rfl
  | cons x r ih => rw [chargeP, if_neg (h x (by simp)), ih fun y hy => h y (by simp [hy])]
theorem chargeP_at (ls : List Lay) (o p : Int) : ∀ (k : Nat) (hk : k < ls.length), ls[k].id = o → (∀ j (hj : j < k), ls[j].id ≠ o) → chargeP ls o p = (0, ls.set k ⟨ls[k].id, ls[k].qty, ls[k].val + p⟩) := by
  induction ls with
  | nil => intro k hk; exact absurd hk (by simp)
  | cons x r ih =>
    intro k hk h1 h2
    cases k with
    | zero => rw [chargeP, if_pos (by simpa using h1)]; simp
    | succ k =>
      rw [chargeP, if_neg (by simpa using h2 0 (by omega)), ih k (by simpa using hk) (by simpa using h1) (fun j hj => by simpa using h2 (j + 1) (by omega))]
      simp
theorem updL_self {β : Type} (L : List UInt8 → β) (s : List UInt8) : updL L s (L s) = L := by
  funext x; unfold updL; split
  · rename_i h; rw [h]
  · rfl
theorem val_le_sum {ls : List Lay} (h : ∀ x ∈ ls, 1 ≤ x.qty ∧ x.qty ≤ 100000 ∧ 0 ≤ x.val) {k : Nat} (hk : k < ls.length) : ls[k].val ≤ sumV ls := by
  induction ls generalizing k with
  | nil => exact absurd hk (by simp)
  | cons x r ih =>
    rw [sumV_cons]
    have h0 := h x (by simp)
    have h1 := sumV_nn (fun y hy => h y (List.mem_cons_of_mem _ hy) : ∀ y ∈ r, _)
    cases k with
    | zero => simp only [List.getElem_cons_zero]; omega
    | succ k =>
      have := ih (fun y hy => h y (List.mem_cons_of_mem _ hy)) (k := k) (by simpa using hk)
      simp only [List.getElem_cons_succ]; omega
theorem setCell_tag (w : World) (g o : Nat) (v : Value) {cur : Array Value} {t : TypeId} {fz : Nat × Nat} (h : w.heap[g]? = some (.cells cur t fz)) : ∃ cur' fz', (w.setCell ⟨g, o, none⟩ v).heap[g]? = some (.cells cur' t fz') := by
  obtain ⟨hlt, hk⟩ := Array.getElem?_eq_some_iff.1 h
  show ∃ cur' fz', (w.heap.modify g _)[g]? = _
  rw [Array.getElem?_eq_getElem (by rw [Array.size_modify]; exact hlt), Array.getElem_modify_self, hk]
  exact ⟨_, _, rfl⟩
/-- A cell of a row of the call's own is written. -/
theorem RdY.put {w : World} {g k n c : Nat} {ls : List Lay} (h : RdY w (.slice (some ⟨g, 0, none⟩) n c) ls) (hk : k < ls.length) (v : Int) :
    RdY (w.setCell ⟨g, k * 3 + 2, none⟩ (.int .i64 v)) (.slice (some ⟨g, 0, none⟩) n c) (ls.set k ⟨ls[k].id, ls[k].qty, v⟩) := by
  obtain ⟨a', c', h1, h2, h3, h4, h5⟩ := h
  injection h1 with e1 e2 e3
  subst e1 e2 e3
  have hlen : (ls.set k ⟨ls[k].id, ls[k].qty, v⟩).length = ls.length := List.length_set
  refine ⟨_, _, by rw [hlen], by rw [hlen]; exact h2, h3, h4, fun j hj => ?_, fun p hp => ?_⟩
  rotate_left
  · cases hp
    obtain ⟨cur, fz, hg⟩ := h5.2 ⟨g, 0, none⟩ rfl
    obtain ⟨hlt, hk2⟩ := Array.getElem?_eq_some_iff.1 hg
    exact setCell_tag w g _ _ hg
  rw [flY_len, hlen] at hj
  obtain ⟨b, off, hb, hc⟩ := h5.1 j (by rw [flY_len]; exact hj)
  injection hb with hb; injection hb with p1 p2
  subst p1 p2
  refine ⟨g, 0, rfl, ?_⟩
  rw [Nat.zero_add] at hc ⊢
  have hd : j = j / 3 * 3 + j % 3 := by omega
  have hi : j / 3 < ls.length := by omega
  have hm : j % 3 < 3 := by omega
  have old : (flY ls).getD j undef = ls[j / 3].cells[j % 3]?.getD undef := by
    rw [List.getD_eq_getElem?_getD]
    conv => lhs; rw [hd]
    rw [flY_get ls (j / 3) hi (j % 3) hm]
  have new : (flY (ls.set k ⟨ls[k].id, ls[k].qty, v⟩)).getD j undef = ((ls.set k ⟨ls[k].id, ls[k].qty, v⟩)[j / 3]'(by rw [hlen]; exact hi)).cells[j % 3]?.getD undef := by
    rw [List.getD_eq_getElem?_getD]
    conv => lhs; rw [hd]
    rw [flY_get _ (j / 3) (by rw [hlen]; exact hi) (j % 3) hm]
  rw [new, List.getElem_set]
  by_cases e : j = k * 3 + 2
  · subst e
    rw [World.cell?_setCell_same' _ _ _ (by rw [hc]; rfl)]
    rw [if_pos (by omega), show (k * 3 + 2) % 3 = 2 by omega]
    rfl
  · rw [World.cell?_setCell_other _ _ _ _ (fun h => e (by have := congrArg Addr.off h; simp only at this; omega)), hc, old]
    by_cases e3 : k = j / 3
    · rw [if_pos e3]
      have : j % 3 = 0 ∨ j % 3 = 1 := by omega
      have e6 : ls[j / 3] = ls[k] := by simp only [e3]
      rw [e6]
      rcases this with e5 | e5 <;> rw [e5] <;> rfl
    · rw [if_neg e3]
set_option maxHeartbeats 4000000 in
set_option maxRecDepth 100000 in
theorem charge_any (T bl bm c : Nat) (L : List UInt8 → List Lay) (G : List UInt8 → Int) (s : ByteArray) (i kd q p o d : Int) (w : World) (h : TW w T bl bm c L G) (hs : s.size ≤ maxLen) (hc : c < 1000000) (hl : (L s.data.toList).length ≤ 1000)
    (hg : GoodY 20000000000000 (L s.data.toList)) (hp : 0 ≤ p ∧ p ≤ 1000000000000) :
    Calls Tryd.prog 71 #[.pointer (some ⟨T, 0, none⟩), .agg #[.int .i64 i, .string s, .int .i64 kd, .int .i64 q, .int .i64 p, .int .i64 o, .int .i64 d]] w fun e w' =>
      e = .returned (.int .i64 (chargeP (L s.data.toList) o p).1) ∧ TW w' T bl bm (c + 1) (updL L s.data.toList (chargeP (L s.data.toList) o p).2) G ∧ Li bl bm w w' := by
  have HW0 := Lib.hid h
  have hTl : T < w.heap.size := cell_blk h.t0
  clear h
  go_enter Tryd.func71, Tryd.ntmps71
  go_wp2
  refine wp_region_still_tail 7 (by kernel_rfl) (by kernel_rfl) ?_
  change wpStill _ _ (World.drew _) _ _ _
  generalize hW : World.drew _ = W
  have hb0 : Below w.heap.size w W := by rw [← hW]; exact ((Below.refl _ w).new _).drew
  have e0 : W.cell? ⟨w.heap.size, 1, none⟩ = some (.string s) := by rw [← hW]; simp
  have e1 : W.cell? ⟨w.heap.size, 4, none⟩ = some (.int .i64 p) := by rw [← hW]; simp
  have e2 : W.cell? ⟨w.heap.size, 5, none⟩ = some (.int .i64 o) := by rw [← hW]; simp
  have HWD := Lib.hid hW
  have hT := HW0.out.below hb0
  obtain ⟨v, hr, hlook⟩ := hT.looks s hs
  have look := hlook W (Below.refl _ _)
  have t0 := hT.t0
  clear hW hlook
  generalize w.heap.size = B at e0 e1 e2 hTl ⊢
  have hbW := hb0.size
  generalize hls : L s.data.toList = ls at hr hl hg
  have HLS := Lib.hid hls
  have HTW : Aside (TW W T bl bm c L G) := hT
  have HG := Lib.hid hg
  obtain ⟨a, cp, rfl, -⟩ := id hr
  have HC := Lib.hid (cloneY_any _ ls W hr hl)
  have hBW : B < W.heap.size := cell_blk e0
  clear hr hls hT hg
  simp only [List.take_succ_cons, List.take_zero, List.drop_succ_cons, List.drop_zero]
  still_step
  still_step
  still_step
  still_step
  still_step
  still_step
  still_step
  refine wpStill_nil ?_
  change wpList _ _ _ _ _ (World.drew _)
  rw [HWD.out]
  clear HWD
  go_wp2_with (go_at_call 86; refine HC.out.mono ?_; rintro e w2 ⟨v2, rfl, ho, hb2⟩)
  have g1 := (hb2.cell (cell_blk e1)).trans e1
  have g2 := (hb2.cell (cell_blk e2)).trans e2
  have g0 := (hb2.cell (cell_blk e0)).trans e0
  refine (indexY_any v2 ls o B w2 ho.rd hl g2).mono ?_
  rintro e w3 ⟨⟨k, hk, rfl, hid, hno⟩ | ⟨rfl, hno⟩, hb3⟩
  · have f1 := (hb3.cell (cell_blk g1)).trans g1
    have f0 := (hb3.cell (cell_blk g0)).trans g0
    obtain ⟨g, cap, rfl, hgW, hg3⟩ : ∃ g cap, v2 = .slice (some ⟨g, 0, none⟩) ls.length cap ∧ W.heap.size ≤ g ∧ ∀ o, w3.frozen? ⟨g, o, none⟩ = false := by
      rcases ho.2 with ⟨-, h0⟩ | ⟨g, cap, cur, e, h1, h2, -⟩
      · omega
      · refine ⟨g, cap, e, h1, fun o => ?_⟩
        have := (hb3.block g (Array.getElem?_eq_some_iff.1 h2).1).trans h2
        simp [World.frozen?, this]
    have hr3 := ho.rd.below hb3
    obtain ⟨-, b', off', hba, p0, p1, p2⟩ := hr3.at k hk
    injection hba with hba; injection hba with q1 q2
    subst q1 q2
    have hx := HG.out.1 ls[k] (List.getElem_mem hk)
    have hS := HG.out.2
    have hV : ls[k].val ≤ 20000000000000 := Int.le_trans (val_le_sum HG.out.1 hk) hS
    have HPUT := Lib.hid (fun v => hr3.put hk v)
    have HCH := Lib.hid (chargeP_at ls o p k hk hid hno)
    obtain ⟨x, hxk⟩ : ∃ x, x = ls[k] := ⟨_, rfl⟩
    rw [← hxk] at p2 hx hV HPUT HCH
    clear hxk p0 p1 hid hno hS
    obtain ⟨xi, xq, xv⟩ := x
    simp only [Nat.zero_add] at p2 hx hV HPUT HCH
    have pf := hg3 (k * 3 + 2)
    have hkz : (k : Int) < (ls.length : Int) := by omega
    have hk0 : ¬ ((k : Int) < 0) := by omega
    have hgl : g < w3.heap.size := cell_blk p2
    have hb13 : Below W.heap.size W w3 := hb2.step hb3
    have E0 := Lib.hid e0
    clear hg3 hr3 hb2 hb3 ho g0 g1 g2 e0 e1 e2 HC t0 look
    go_wp2_with fail
    have mixed : Tryd.prog.follows .mixedOrders = true := by kernel_rfl
    go_big_region_o
    have hb4 : Below W.heap.size W (w3.setCell ⟨g, k * 3 + 2, none⟩ (.int .i64 (xv + p))).drew := (hb13.setCell (p := ⟨g, k * 3 + 2, none⟩) hgW _).drew
    have hr4 : RdY (w3.setCell ⟨g, k * 3 + 2, none⟩ (.int .i64 (xv + p))).drew (.slice (some ⟨g, 0, none⟩) ls.length cap) (ls.set k ⟨xi, xq, xv + p⟩) := (HPUT.out (xv + p)).below ((Below.refl _ _).drew)
    clear HPUT hb13 f0 f1 pf p2 hgl
    generalize (w3.setCell ⟨g, k * 3 + 2, none⟩ (.int .i64 (xv + p))).drew = w4 at hb4 hr4 ⊢
    have hb5 : Below W.heap.size W w4.drew := hb4.drew
    have hr5 : RdY w4.drew (.slice (some ⟨g, 0, none⟩) ls.length cap) (ls.set k ⟨xi, xq, xv + p⟩) := hr4.below (Below.refl _ w4).drew
    have hT5 := HTW.out.below hb5
    obtain ⟨w5, hrun, htw, hli⟩ := hT5.set s hs (by unfold maxLen; omega) _ _ hr5
    have f0 : w4.drew.cell? ⟨B, 1, none⟩ = some (.string s) := (hb5.cell hBW).trans E0.out
    have t0 : w4.drew.cell? ⟨T, 0, none⟩ = some (.map (some bl)) := hT5.t0
    have f04 : w4.cell? ⟨B, 1, none⟩ = some (.string s) := f0
    have t04 : w4.cell? ⟨T, 0, none⟩ = some (.map (some bl)) := t0
    have HT6 := Lib.hid htw
    have HL6 := Lib.hid hli
    have HB5 := Lib.hid hb5
    clear htw hli hb5 hT5 hr5 hr4 hb4
    go_wp2_with fail
    go_big_region_o
    clear mixed
    go_wp2
    go_ret
    rw [HLS.out, HCH.out]
    exact ⟨rfl, HT6.out, (Li.of_below hb0).trans ((Li.of_below HB5.out).trans HL6.out)⟩
  · have f1 := (hb3.cell (cell_blk g1)).trans g1
    have HCH := Lib.hid (chargeP_no ls o p hno)
    go_wp2
    go_ret
    rw [HLS.out, HCH.out]
    refine ⟨rfl, ?_, (Li.of_below hb0).trans ((Li.of_below hb2).trans (Li.of_below hb3))⟩
    rw [← HLS.out, updL_self]
    exact ((HTW.out.below hb2).below hb3).mono (by omega)
end Go.Proofs.YtefbedineniejaaDoor
