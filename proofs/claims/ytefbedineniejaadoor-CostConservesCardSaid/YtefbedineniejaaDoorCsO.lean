/- cost.Result's Sum: how many are left of an item, of which value. -/
import Derived.Test.YtefbedineniejaaDoorCsN
import Derived.Deep.LoopGhost
namespace Go.Proofs.YtefbedineniejaaDoor
open Go.RowKit
open Go.Maps (Keyed)
set_option linter.unusedVariables false

theorem Kept.below {w w' : World} {bl : Nat} {L : List UInt8 → List Lay} (h : Kept w bl L) (hb : Below w.heap.size w w') : Kept w' bl L := by
  obtain ⟨ks, f, m1, m2, m3⟩ := h
  exact ⟨ks, f, m1.below hb, fun l => (m2 l).below hb, m3⟩
theorem Kept.lt {w : World} {bl : Nat} {L : List UInt8 → List Lay} (h : Kept w bl L) : bl < w.heap.size := by
  obtain ⟨ks, f, m1, -⟩ := h; exact m1.lt
/-- 'r.Layers[item]', in whatever world behind. -/
theorem Kept.looks {w : World} {bl : Nat} {L : List UInt8 → List Lay} (h : Kept w bl L) (s : ByteArray) (hs : s.size ≤ maxLen) : ∃ v, RdY w v (L s.data.toList) ∧ ∀ W, Below w.heap.size w W → (Instr.lookup 41 (.map (some bl)) (.string s) false).run Tryd.prog W = .ok v W := by
  obtain ⟨ks, f, m1, m2, m3⟩ := h
  exact ⟨_, m2 _, fun W hb => (m1.below hb).get (Go.Maps.string_keyed Tryd.underlying9) Tryd.underlying41 (zero_sl W) (key_bytes s hs)⟩
theorem sumV_snoc (ls : List Lay) (x : Lay) : sumV (ls ++ [x]) = sumV ls + x.val := by simp [sumV]
theorem sumV_take {ls : List Lay} (h : ∀ x ∈ ls, 1 ≤ x.qty ∧ x.qty ≤ 100000 ∧ 0 ≤ x.val) (k : Nat) : 0 ≤ sumV (ls.take k) ∧ sumV (ls.take k) ≤ sumV ls := by
  have e : sumV ls = sumV (ls.take k) + sumV (ls.drop k) := by rw [← sumV_app, List.take_append_drop]
  have h1 := sumV_nn (ls := ls.take k) fun x hx => h x (List.mem_of_mem_take hx)
  have h2 := sumV_nn (ls := ls.drop k) fun x hx => h x (List.mem_of_mem_drop hx)
  omega
set_option maxHeartbeats 2000000 in
set_option maxRecDepth 100000 in
theorem sum_any (va : Value) (bl : Nat) (L : List UInt8 → List Lay) (s : ByteArray) (w : World) (hva : ∃ a n c, va = .slice a n c) (h : Kept w bl L) (hs : s.size ≤ maxLen) (hg : GoodY 20000000000000 (L s.data.toList)) (hl : (L s.data.toList).length ≤ 1000) :
    Calls Tryd.prog 19 #[.agg #[va, .map (some bl)], .string s] w fun e w' => e = .returned (.tuple #[.int .i64 (sumQ (L s.data.toList)), .int .i64 (sumV (L s.data.toList))]) ∧ Below w.heap.size w w' := by
  obtain ⟨xa, xn, xc, rfl⟩ := hva
  obtain ⟨v, hr, hlook⟩ := h.looks s hs
  obtain ⟨W0, hW0⟩ : ∃ W0, W0 = w.alloc (.cells #[.slice xa xn xc, .map (some bl)] 43) := ⟨_, rfl⟩
  have hb0 : Below w.heap.size w W0 := by rw [hW0]; exact (Below.refl _ w).new _
  have look := hlook W0 hb0
  have hr1 := hr.below hb0
  rw [hW0] at look
  generalize L s.data.toList = ls at hr1 hg hl ⊢
  obtain ⟨a, cp, rfl, -⟩ := id hr1
  have HR : Aside (RdY W0 (.slice a ls.length cp) ls) := hr1
  have HG : Aside _ := hg
  have HW := Lib.hid hW0
  have HB0 := Lib.hid hb0
  clear h hr hr1 hg hlook hb0 hW0
  go_enter Tryd.func19, Tryd.ntmps19
  go_wp2
  rw [← HW.out]
  clear look
  go_loopg [4, 5, 13] ls.length (fun kx q v i wr => ∃ k : Nat, k ≤ ls.length ∧ q = .int .i64 (sumQ (ls.take k)) ∧ v = .int .i64 (sumV (ls.take k)) ∧ i = .int .i64 k ∧ ls.length - k ≤ kx ∧ Below W0.heap.size W0 wr)
  case atStart => exact ⟨0, by omega, rfl, rfl, rfl, by omega, Below.refl _ _⟩
  case round =>
    obtain ⟨k, hk, rfl, rfl, rfl, hkx, hb⟩ := hrel
    by_cases hlt : k < ls.length
    · have hltz : (k : Int) < (ls.length : Int) := by omega
      obtain ⟨-, b, off, rfl, p0, p1, p2⟩ := (HR.out.below hb).at k hlt
      have hx := HG.out.1 ls[k] (List.getElem_mem hlt)
      have hbd := sumQ_bd (ls.take k) (fun x hx => by have := HG.out.1 x (List.mem_of_mem_take hx); omega)
      have hbv := sumV_take HG.out.1 k
      have hbv2 := sumV_take HG.out.1 (k + 1)
      have hB2 := HG.out.2
      have hS : Hid (sumQ (ls.take (k + 1)) = sumQ (ls.take k) + ls[k].qty) := by show _ = _; rw [List.take_succ_eq_append_getElem hlt, sumQ_snoc]
      have hV' : sumV (ls.take (k + 1)) = sumV (ls.take k) + ls[k].val := by rw [List.take_succ_eq_append_getElem hlt, sumV_snoc]
      rw [hV'] at hbv2
      have hV := Lib.hid hV'
      have htl : (ls.take k).length ≤ 1000 := by rw [List.length_take]; omega
      generalize ls[k] = x at p0 p1 p2 hx hS hV hbv2
      generalize sumQ (ls.take k) = S at hbd hS ⊢
      generalize sumV (ls.take k) = V at hbv hbv2 hV ⊢
      generalize sumV ls = VV at hbv hbv2 hB2
      clear hV'
      go_wp2
      go_roundg (ls.length - (k + 1))
      case measure => omega
      case rel => exact ⟨k + 1, hlt, by rw [hS.out], by rw [hV.out], by first | rfl | go_num | (congr 1; omega), Nat.le_refl _, hb.new _⟩
    · have hltz : ¬ (k : Int) < (ls.length : Int) := by omega
      have hke : k = ls.length := by omega
      subst hke
      rw [List.take_length]
      go_wp2
      go_ret2
      exact ⟨rfl, HB0.out.step hb⟩
end Go.Proofs.YtefbedineniejaaDoor
