/- Events in a slice: finding one; which are few enough; numbering them. -/
import Derived.Test.YtefbedineniejaaDoorCsO
namespace Go.Proofs.YtefbedineniejaaDoor
open Go.RowKit
open Go.Maps (Keyed)
set_option linter.unusedVariables false

/-- The seven cells of the k-th event, in whatever world behind. -/
theorem RdE.seven {hi : Nat} {w : World} {a : Option Addr} {n c : Nat} {es : List Evt} (h : RdE hi w (.slice a n c) es) (k : Nat) (hk : k < es.length) : ∃ b off, a = some ⟨b, off, none⟩ ∧ b < hi ∧ ∀ W, Below hi w W →
    W.cell? ⟨b, off + k * 7, none⟩ = some (.int .i64 es[k].id) ∧ W.cell? ⟨b, off + k * 7 + 1, none⟩ = some (.string es[k].item) ∧ W.cell? ⟨b, off + k * 7 + 2, none⟩ = some (.int .i64 es[k].kind) ∧ W.cell? ⟨b, off + k * 7 + 3, none⟩ = some (.int .i64 es[k].qty) ∧
    W.cell? ⟨b, off + k * 7 + 4, none⟩ = some (.int .i64 es[k].price) ∧ W.cell? ⟨b, off + k * 7 + 5, none⟩ = some (.int .i64 es[k].ofn) ∧ W.cell? ⟨b, off + k * 7 + 6, none⟩ = some (.int .i64 es[k].day) := by
  rcases h with ⟨-, rfl⟩ | ⟨b, off, cap, hv, hb, hc⟩
  · exact absurd hk (by simp)
  · injection hv with hv
    refine ⟨b, off, hv, hb, fun W hW => ?_⟩
    have g := fun j u hu => (hW.cell (p := ⟨b, off + k * 7 + j, none⟩) hb).trans (hc k hk j u hu)
    exact ⟨g 0 _ rfl, g 1 _ rfl, g 2 _ rfl, g 3 _ rfl, g 4 _ rfl, g 5 _ rfl, g 6 _ rfl⟩
theorem RdE.shape {hi : Nat} {w : World} {v : Value} {es : List Evt} (h : RdE hi w v es) : ∃ a c, v = .slice a es.length c := by
  rcases h with ⟨rfl, rfl⟩ | ⟨b, off, cap, rfl, hb, hc⟩
  · exact ⟨_, _, rfl⟩
  · exact ⟨_, _, rfl⟩
/-- The first one, or none. -/
def First (p : Evt → Bool) (es : List Evt) (z : Int) : Prop := (z = -1 ∧ ∀ x ∈ es, p x = false) ∨ ∃ k : Nat, ∃ hk : k < es.length, z = k ∧ p es[k] = true ∧ ∀ j (hj : j < k), p es[j] = false
theorem First.any {p : Evt → Bool} {es : List Evt} {z : Int} (h : First p es z) : decide (0 ≤ z) = es.any p := by
  rcases h with ⟨rfl, h⟩ | ⟨k, hk, rfl, h, -⟩
  · rw [show es.any p = false from by rw [List.any_eq_false]; exact fun x hx => by rw [h x hx]; simp]
    rfl
  · rw [show es.any p = true from List.any_eq_true.2 ⟨_, List.getElem_mem hk, h⟩]
    simp
set_option maxHeartbeats 1000000 in
set_option maxRecDepth 100000 in
theorem indexE_any (g : Nat) (cb : Array Value) (p : Evt → Bool) (hi : Nat) (v : Value) (es : List Evt) (w : World) (hr : RdE hi w v es) (hh : hi ≤ w.heap.size) (hlen : es.length ≤ 1000) (eg : ∀ args w, (callFunc g args).run Tryd.prog w = .ok (.enter g args) w)
    (hf : ∀ e ∈ es, ∀ W, Below w.heap.size w W → Calls Tryd.prog g (#[e.agg] ++ cb) W fun x w' => x = .returned (.bool (p e)) ∧ Below W.heap.size W w') :
    Calls Tryd.prog 54 #[v, .func (.func g) #[] cb] w fun e w' => ∃ z, e = .returned (.int .i64 z) ∧ First p es z ∧ Below w.heap.size w w' := by
  obtain ⟨a, c, rfl⟩ := hr.shape
  have HR := Lib.hid hr
  have HF := Lib.hid hf
  clear hr hf
  go_enter Tryd.func54, Tryd.ntmps54
  go_wp2
  go_loopg [8] es.length (fun kx i wr => ∃ k : Nat, k ≤ es.length ∧ i = .int .i64 k ∧ es.length - k ≤ kx ∧ Hid (∀ j (hj : j < k) (h2 : j < es.length), p es[j] = false) ∧ Below w.heap.size w wr)
  case atStart => exact ⟨0, by omega, rfl, by omega, fun j hj => absurd hj (by omega), Below.refl _ _⟩
  case round =>
    obtain ⟨k, hk, rfl, hkx, HN, hb⟩ := hrel
    by_cases hlt : k < es.length
    · have hltz : (k : Int) < (es.length : Int) := by omega
      obtain ⟨b, off, rfl, hbh, h7⟩ := HR.out.seven k hlt
      obtain ⟨c0, c1, c2, c3, c4, c5, c6⟩ := h7 wr (hb.mono hh)
      obtain ⟨e, he⟩ : ∃ e, e = es[k] := ⟨_, rfl⟩
      have HC := Lib.hid (HF.out e (by rw [he]; exact List.getElem_mem hlt) wr hb)
      rw [← he] at c0 c1 c2 c3 c4 c5 c6
      have HE := Lib.hid he
      clear h7 he
      simp only [Evt.agg] at HC
      cases hp : p e with
      | true =>
        have HPE := Lib.hid hp
        rw [hp] at HC
        clear hp
        go_wp2_with (go_at_fn g; refine HC.out.mono ?_; rintro e w2 ⟨rfl, hb2⟩)
        (try simp only [Exit.inBlock, Exit.then])
        refine bodyPost_ret (results_tmp rfl _ _ _) rfl ?_
        exact ⟨_, rfl, .inr ⟨k, hlt, rfl, by rw [← HE.out]; exact HPE.out, fun j hj => HN.out j hj (by omega)⟩, hb.step hb2⟩
      | false =>
        have HPE := Lib.hid hp
        rw [hp] at HC
        clear hp
        go_wp2_with (go_at_fn g; refine HC.out.mono ?_; rintro e w2 ⟨rfl, hb2⟩)
        go_roundg (es.length - (k + 1))
        case measure => omega
        case rel =>
          refine ⟨k + 1, hlt, by first | rfl | go_num | (congr 1; omega), Nat.le_refl _, (show Hid _ from fun j hj h2 => ?_), hb.step hb2⟩
          by_cases hjk : j = k
          · subst hjk; rw [← HE.out]; exact HPE.out
          · exact HN.out j (by omega) h2
    · have hltz : ¬ (k : Int) < (es.length : Int) := by omega
      go_wp2
      go_ret
      refine ⟨_, rfl, .inl ⟨rfl, fun x hx => ?_⟩, hb⟩
      obtain ⟨j, hj, rfl⟩ := List.getElem_of_mem hx
      exact HN.out j (by omega) hj
set_option maxHeartbeats 1000000 in
theorem containsE_any (g : Nat) (cb : Array Value) (p : Evt → Bool) (hi : Nat) (v : Value) (es : List Evt) (w : World) (hr : RdE hi w v es) (hh : hi ≤ w.heap.size) (hlen : es.length ≤ 1000) (eg : ∀ args w, (callFunc g args).run Tryd.prog w = .ok (.enter g args) w)
    (hf : ∀ e ∈ es, ∀ W, Below w.heap.size w W → Calls Tryd.prog g (#[e.agg] ++ cb) W fun x w' => x = .returned (.bool (p e)) ∧ Below W.heap.size W w') :
    Calls Tryd.prog 20 #[v, .func (.func g) #[] cb] w fun e w' => e = .returned (.bool (es.any p)) ∧ Below w.heap.size w w' := by
  have H := Lib.hid (indexE_any g cb p hi v es w hr hh hlen eg hf)
  obtain ⟨a, c, rfl⟩ := hr.shape
  clear hr hf
  go_enter Tryd.func20, Tryd.ntmps20
  go_wp2_with (go_at_call 54; refine H.out.mono ?_; rintro e w2 ⟨z, rfl, hz, hb2⟩)
  go_ret
  exact ⟨by rw [← hz.any]; first | rfl | simp, hb2⟩
set_option maxHeartbeats 1000000 in
theorem held1_any (e : Evt) (w : World) (hs : e.item.size ≤ 9223372036854775807) : Calls Tryd.prog 46 #[e.agg] w fun x w' => x = .returned (.bool (decide (60 < e.item.size))) ∧ Below w.heap.size w w' := by
  obtain ⟨i, s, k, q, p, o, d⟩ := e
  simp only at hs
  go_enter Tryd.func46, Tryd.ntmps46
  go_wp2
  go_ret
  exact ⟨by simp; omega, (Below.refl _ w).new _⟩
set_option maxHeartbeats 1000000 in
/-- held: few enough, none with a long item. -/
theorem held_any (hi : Nat) (v : Value) (es : List Evt) (w : World) (hr : RdE hi w v es) (hh : hi ≤ w.heap.size) (hsz : ∀ e ∈ es, e.item.size ≤ 9223372036854775807) (hlen : es.length ≤ 9223372036854775807) :
    Calls Tryd.prog 14 #[v] w fun e w' => e = .returned (.bool (decide (es.length ≤ 40) && !es.any fun e => decide (60 < e.item.size))) ∧ Below w.heap.size w w' := by
  obtain ⟨a, c, rfl⟩ := hr.shape
  by_cases h40 : es.length ≤ 40
  · have h40z : (es.length : Int) ≤ 40 := by omega
    have h40d : decide (es.length ≤ 40) = true := decide_eq_true h40
    have H := Lib.hid (containsE_any 46 #[] (fun e => decide (60 < e.item.size)) hi _ es w hr hh (by omega) (enters_of Tryd.func46 (by kernel_rfl) rfl) (fun e he W _ => held1_any e W (hsz e he)))
    rw [h40d]
    generalize (es.any fun e => decide (60 < e.item.size)) = q at H ⊢
    clear hr hsz h40d
    go_enter Tryd.func14, Tryd.ntmps14
    go_wp2_with (go_at_call 20; refine H.out.mono ?_; rintro e w2 ⟨rfl, hb2⟩)
    go_ret
    exact ⟨by simp, hb2⟩
  · have h40z : ¬ ((es.length : Int) ≤ 40) := by omega
    have h40d : decide (es.length ≤ 40) = false := decide_eq_false h40
    rw [h40d]
    clear hr hsz h40d
    go_enter Tryd.func14, Tryd.ntmps14
    go_wp2_with fail
    go_ret
    exact ⟨by simp, Below.refl _ _⟩
end Go.Proofs.YtefbedineniejaaDoor
