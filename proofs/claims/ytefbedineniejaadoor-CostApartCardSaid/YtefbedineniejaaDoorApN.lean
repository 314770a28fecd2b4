/- slices.IndexFunc and slices.Clone at lines. -/
import Derived.Test.YtefbedineniejaaDoorCaQ
import Derived.Test.YtefbedineniejaaDoorDelE
namespace Go.Proofs.YtefbedineniejaaDoor
open Go.RowKit
open Go.Maps (Keyed)
set_option linter.unusedVariables false

def FirstN (p : Ln → Bool) (es : List Ln) (z : Int) : Prop := (z = -1 ∧ ∀ x ∈ es, p x = false) ∨ ∃ k : Nat, ∃ hk : k < es.length, z = k ∧ p es[k] = true ∧ ∀ j (hj : j < k), p es[j] = false
set_option maxHeartbeats 1000000 in
set_option maxRecDepth 100000 in
theorem indexN_any (g : Nat) (cb : Array Value) (p : Ln → Bool) (a : Option Addr) (c : Nat) (es : List Ln) (w : World) (hr : RdN w a es) (hlen : es.length ≤ 1000) (eg : ∀ args w, (callFunc g args).run Tryd.prog w = .ok (.enter g args) w)
    (hf : ∀ e ∈ es, ∀ W, Below w.heap.size w W → Calls Tryd.prog g (#[e.agg] ++ cb) W fun x w' => x = .returned (.bool (p e)) ∧ Below W.heap.size W w') :
    Calls Tryd.prog 56 #[.slice a es.length c, .func (.func g) #[] cb] w fun e w' => ∃ z, e = .returned (.int .i64 z) ∧ FirstN p es z ∧ Below w.heap.size w w' := by
  have HR := Lib.hid hr
  have HF := Lib.hid hf
  clear hr hf
  go_enter Tryd.func56, Tryd.ntmps56
  go_wp2
  go_loopg [8] es.length (fun kx i wr => ∃ k : Nat, k ≤ es.length ∧ i = .int .i64 k ∧ es.length - k ≤ kx ∧ Hid (∀ j (hj : j < k) (h2 : j < es.length), p es[j] = false) ∧ Below w.heap.size w wr)
  case atStart => exact ⟨0, by omega, rfl, by omega, fun j hj => absurd hj (by omega), Below.refl _ _⟩
  case round =>
    obtain ⟨k, hk, rfl, hkx, HN, hb⟩ := hrel
    by_cases hlt : k < es.length
    · have hltz : (k : Int) < (es.length : Int) := by omega
      obtain ⟨b, off, rfl, hbh, h7⟩ := (HR.out.below hb) k hlt
      have c0 := h7 0 _ rfl
      have c1 := h7 1 _ rfl
      have c2 := h7 2 _ rfl
      have c3 := h7 3 _ rfl
      have c4 := h7 4 _ rfl
      rw [Nat.add_zero] at c0
      obtain ⟨e, he⟩ : ∃ e, e = es[k] := ⟨_, rfl⟩
      have HC := Lib.hid (HF.out e (by rw [he]; exact List.getElem_mem hlt) wr hb)
      rw [← he] at c0 c1 c2 c3 c4
      have HE := Lib.hid he
      clear h7 he
      simp only [Ln.agg] at HC
      cases hp : p e with
      | true =>
        have HPE := Lib.hid hp
        rw [hp] at HC
        clear hp
        go_wp2_with (go_at_fn g; refine HC.out.mono ?_; rintro e w2 ⟨rfl, hb2⟩)
        (try simp only [Exit.inBlock, Exit.then])
        refine bodyPost_ret (results_tmp rfl _ _ _) rfl ?_
        exact ⟨_, rfl, .inr ⟨k, hlt, rfl, by rw [← HE.out]; exact HPE.out, fun j hj => HN.out j hj (by omega)⟩, hb.step hb2⟩
      | false =>
        have HPE := Lib.hid hp
        rw [hp] at HC
        clear hp
        go_wp2_with (go_at_fn g; refine HC.out.mono ?_; rintro e w2 ⟨rfl, hb2⟩)
        go_roundg (es.length - (k + 1))
        case measure => omega
        case rel =>
          refine ⟨k + 1, hlt, by first | rfl | go_num | (congr 1; omega), Nat.le_refl _, (show Hid _ from fun j hj h2 => ?_), hb.step hb2⟩
          by_cases hjk : j = k
          · subst hjk; rw [← HE.out]; exact HPE.out
          · exact HN.out j (by omega) h2
    · have hltz : ¬ (k : Int) < (es.length : Int) := by omega
      go_wp2
      go_ret
      refine ⟨_, rfl, .inl ⟨rfl, fun x hx => ?_⟩, hb⟩
      obtain ⟨j, hj, rfl⟩ := List.getElem_of_mem hx
      exact HN.out j (by omega) hj
theorem one_flN (ls : List Ln) : ∀ u ∈ flN ls, u.oneCell' = true := by
  intro u hu
  obtain ⟨x, hx, h⟩ := List.mem_flatMap.1 hu
  exact one_ln x u h
set_option maxHeartbeats 1000000 in
set_option maxRecDepth 100000 in
theorem cloneN_any (base n : Nat) (xa : Option Addr) (xc : Nat) (ls : List Ln) (w : World) (h : w.ownsRow base 54 5 (.slice xa n xc) n (flN ls)) (hn : ls.length = n) (hl : n ≤ 1000) :
    Calls Tryd.prog 33 #[.slice xa n xc] w fun e w' => ∃ v', e = .returned v' ∧ w'.ownsRow w.heap.size 54 5 v' ls.length (flN ls) ∧ Below w.heap.size w w' := by
  obtain ⟨i0, hinf, hiz, his, hib⟩ := info_parts info_ln
  subst hn
  rcases h.2 with ⟨e0, h0⟩ | ⟨b, cap, cur, e1, hbb, hc, hn, hm, hsz, ht⟩
  · injection e0 with e0 e1 e2
    subst e0 e2
    obtain rfl : ls = [] := List.length_eq_zero_iff.1 h0
    clear h h0 e1
    go_enter Tryd.func33, Tryd.ntmps33
    have k0 := fun (w : World) => Lib.run_eql_slice_nil (P := Tryd.prog) w
    go_wp2
    go_ret
    exact ⟨_, rfl, World.ownsRow_nil _ _ _ _, Below.refl _ _⟩
  · injection e1 with e1 e2 e3
    subst e1 e3
    have hcs : ∀ j u, (flN ls)[j]? = some u → (w.alloc (.cells #[] 54)).cell? ((⟨b, 0, none⟩ : Addr).add j) = some u := by
      intro j u hu
      have hj : j < ls.length * 5 := by have := (List.getElem?_eq_some_iff.1 hu).1; rw [h.1] at this; exact this
      have h1 : w.cell? ⟨b, j, none⟩ = some u := by
        rw [← ht, List.getElem?_take_of_lt hj] at hu
        simp only [World.cell?, hc]
        simpa using hu
      have e0 : (⟨b, 0, none⟩ : Addr).add j = ⟨b, j, none⟩ := by simp [Addr.add]; omega
      rw [e0]
      exact (((Below.refl _ w).new (.cells #[] 54)).cell (p := ⟨b, j, none⟩) (cell_lt h1)).trans h1
    have HCS := Lib.hid hcs
    have HL5 : Hid ((flN ls).length = ls.length * 5) := Lib.hid h.1
    clear h hc ht hcs hsz hbb
    have k0 := fun (w : World) => Lib.run_eql_slice_nil (P := Tryd.prog) w 40 54 (some ⟨b, 0, none⟩) ls.length xc 0 0 Tryd.underlying40
    go_enter Tryd.func33, Tryd.ntmps33
    go_wp2_with (first
      | (at_builtin; refine wpList_append_own _ rfl (.tmp 5) (.tmp 6) 40 rfl w.heap.size 54 i0 (.agg #[.int .i64 0, .int .i64 0, .int .i64 0, .int .i64 0, .bool false]) 5 40 Tryd.underlying40 hinf hiz his hib rfl (by decide) _ 0 [] rfl (own_empty_e _ _ _ _ (Nat.le_refl _)) ⟨b, 0, none⟩ ls.length xc (flN ls) rfl HL5.out HCS.out (one_flN ls) (by unfold maxLen; omega) (by omega) (by simp) ?_; intro v2 w2 hown2 hg2 _))
    go_ret
    refine ⟨v2, rfl, ?_, ((Below.refl _ w).new _).owngrown (own_empty_e _ _ 54 5 (Nat.le_refl _)) hg2 (by simp)⟩
    simpa using hown2
end Go.Proofs.YtefbedineniejaaDoor
