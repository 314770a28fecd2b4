/- Joined: CsO, CsP. -/
import Derived.Test.YtefbedineniejaaDoorCsN
import Derived.Deep.LoopGhost

/- CsO: cost.Result's Sum: how many are left of an item, of which value. -/
section
namespace Go.Proofs.YtefbedineniejaaDoor
open Go.RowKit
open Go.Maps (Keyed)
set_option linter.unusedVariables false

theorem Kept.below {w w' : World} {bl : Nat} {L : List UInt8 → List Lay} (h : Kept w bl L) (hb : Below w.heap.size w w') : Kept w' bl L := by
  obtain ⟨ks, f, m1, m2, m3⟩ := h
  exact ⟨ks, f, m1.below hb, fun l => (m2 l).below hb, m3⟩
theorem Kept.lt {w : World} {bl : Nat} {L : List UInt8 → List Lay} (h : Kept w bl L) : bl < w.heap.size := by
  obtain ⟨ks, f, m1, -⟩ := h; exact m1.lt
/-- 'r.Layers[item]', in whatever world behind. -/
theorem Kept.looks {w : World} {bl : Nat} {L : List UInt8 → List Lay} (h : Kept w bl L) (s : ByteArray) (hs : s.size ≤ maxLen) : ∃ v, RdY w v (L s.data.toList) ∧ ∀ W, Below w.heap.size w W → (Instr.lookup 41 (.map (some bl)) (.string s) false).run Tryd.prog W = .ok v W := by
  obtain ⟨ks, f, m1, m2, m3⟩ := h
  exact ⟨_, m2 _, fun W hb => (m1.below hb).get (Go.Maps.string_keyed Tryd.underlying9) Tryd.underlying41 (zero_sl W) (key_bytes s hs)⟩
theorem sumV_snoc (ls : List Lay) (x : Lay) : sumV (ls ++ [x]) = sumV ls + x.val := by simp [sumV]
theorem sumV_take {ls : List Lay} (h : ∀ x ∈ ls, 1 ≤ x.qty ∧ x.qty ≤ 100000 ∧ 0 ≤ x.val) (k : Nat) : 0 ≤ sumV (ls.take k) ∧ sumV (ls.take k) ≤ sumV ls := by
  have e : sumV ls = sumV (ls.take k) + sumV (ls.drop k) := by rw [← sumV_app, List.take_append_drop]
  have h1 := sumV_nn (ls := ls.take k) fun x hx => h x (List.mem_of_mem_take hx)
  have h2 := sumV_nn (ls := ls.drop k) fun x hx => h x (List.mem_of_mem_drop hx)
  omega
set_option maxHeartbeats 2000000 in
set_option maxRecDepth 100000 in
theorem sum_any (va : Value) (bl : Nat) (L : List UInt8 → List Lay) (s : ByteArray) (w : World) (hva : ∃ a n c, va = .slice a n c) (h : Kept w bl L) (hs : s.size ≤ maxLen) (hg : GoodY 20000000000000 (L s.data.toList)) (hl : (L s.data.toList).length ≤ 1000) :
    Calls Tryd.prog 19 #[.agg #[va, .map (some bl)], .string s] w fun e w' => e = .returned (.tuple #[.int .i64 (sumQ (L s.data.toList)), .int .i64 (sumV (L s.data.toList))]) ∧ Below w.heap.size w w' := by
  obtain ⟨xa, xn, xc, rfl⟩ := hva
  obtain ⟨v, hr, hlook⟩ := h.looks s hs
  obtain ⟨W0, hW0⟩ : ∃ W0, W0 = w.alloc (.cells #[.slice xa xn xc, .map (some bl)] 43) := ⟨_, rfl⟩
  have hb0 : Below w.heap.size w W0 := by rw [hW0]; exact (Below.refl _ w).new _
  have look := hlook W0 hb0
  have hr1 := hr.below hb0
  rw [hW0] at look
  generalize L s.data.toList = ls at hr1 hg hl ⊢
  obtain ⟨a, cp, rfl, -⟩ := id hr1
  have HR : Aside (RdY W0 (.slice a ls.length cp) ls) := hr1
  have HG : Aside _ := hg
  have HW := Lib.hid hW0
  have HB0 := Lib.hid hb0
  clear h hr hr1 hg hlook hb0 hW0
  go_enter Tryd.func19, Tryd.ntmps19
  go_wp2
  rw [← HW.out]
  clear look
  go_loopg [4, 5, 13] ls.length (fun kx q v i wr => ∃ k : Nat, k ≤ ls.length ∧ q = .int .i64 (sumQ (ls.take k)) ∧ v = .int .i64 (sumV (ls.take k)) ∧ i = .int .i64 k ∧ ls.length - k ≤ kx ∧ Below W0.heap.size W0 wr)
  case atStart => exact ⟨0, by omega, rfl, rfl, rfl, by omega, Below.refl _ _⟩
  case round =>
    obtain ⟨k, hk, rfl, rfl, rfl, hkx, hb⟩ := hrel
    by_cases hlt : k < ls.length
    · have hltz : (k : Int) < (ls.length : Int) := by omega
      obtain ⟨-, b, off, rfl, p0, p1, p2⟩ := (HR.out.below hb).at k hlt
      have hx := HG.out.1 ls[k] (List.getElem_mem hlt)
      have hbd := sumQ_bd (ls.take k) (fun x hx => by have := HG.out.1 x (List.mem_of_mem_take hx); omega)
      have hbv := sumV_take HG.out.1 k
      have hbv2 := sumV_take HG.out.1 (k + 1)
      have hB2 := HG.out.2
      have hS : Hid (sumQ (ls.take (k + 1)) = sumQ (ls.take k) + ls[k].qty) := by show _ = _; rw [List.take_succ_eq_append_getElem hlt, sumQ_snoc]
      have hV' : sumV (ls.take (k + 1)) = sumV (ls.take k) + ls[k].val := by rw [List.take_succ_eq_append_getElem hlt, sumV_snoc]
      rw [hV'] at hbv2
      have hV := Lib.hid hV'
      have htl : (ls.take k).length ≤ 1000 := by rw [List.length_take]; omega
      generalize ls[k] = x at p0 p1 p2 hx hS hV hbv2
      generalize sumQ (ls.take k) = S at hbd hS ⊢
      generalize sumV (ls.take k) = V at hbv hbv2 hV ⊢
      generalize sumV ls = VV at hbv hbv2 hB2
      clear hV'
      go_wp2
      go_roundg (ls.length - (k + 1))
      case measure => omega
      case rel => exact ⟨k + 1, hlt, by rw [hS.out], by rw [hV.out], by first | rfl | go_num | (congr 1; omega), Nat.le_refl _, hb.new _⟩
    · have hltz : ¬ (k : Int) < (ls.length : Int) := by omega
      have hke : k = ls.length := by omega
      subst hke
      rw [List.take_length]
      go_wp2
      go_ret2
      exact ⟨rfl, HB0.out.step hb⟩
end Go.Proofs.YtefbedineniejaaDoor
end

/- CsP: Events in a slice: finding one; which are few enough; numbering them. -/
section
namespace Go.Proofs.YtefbedineniejaaDoor
open Go.RowKit
open Go.Maps (Keyed)
set_option linter.unusedVariables false

/-- The seven cells of the k-th event, in whatever world behind. -/
theorem RdE.seven {hi : Nat} {w : World} {a : Option Addr} {n c : Nat} {es : List Evt} (h : RdE hi w (.slice a n c) es) (k : Nat) (hk : k < es.length) : ∃ b off, a = some ⟨b, off, none⟩ ∧ b < hi ∧ ∀ W, Below hi w W →
    W.cell? ⟨b, off + k * 7, none⟩ = some (.int .i64 es[k].id) ∧ W.cell? ⟨b, off + k * 7 + 1, none⟩ = some (.string es[k].item) ∧ W.cell? ⟨b, off + k * 7 + 2, none⟩ = some (.int .i64 es[k].kind) ∧ W.cell? ⟨b, off + k * 7 + 3, none⟩ = some (.int .i64 es[k].qty) ∧
    W.cell? ⟨b, off + k * 7 + 4, none⟩ = some (.int .i64 es[k].price) ∧ W.cell? ⟨b, off + k * 7 + 5, none⟩ = some (.int .i64 es[k].ofn) ∧ W.cell? ⟨b, off + k * 7 + 6, none⟩ = some (.int .i64 es[k].day) := by
  rcases h with ⟨-, rfl⟩ | ⟨b, off, cap, hv, hb, hc⟩
  · exact absurd hk (by simp)
  · injection hv with hv
    refine ⟨b, off, hv, hb, fun W hW => ?_⟩
    have g := fun j u hu => (hW.cell (p := ⟨b, off + k * 7 + j, none⟩) hb).trans (hc k hk j u hu)
    exact ⟨g 0 _ rfl, g 1 _ rfl, g 2 _ rfl, g 3 _ rfl, g 4 _ rfl, g 5 _ rfl, g 6 _ rfl⟩
theorem RdE.shape {hi : Nat} {w : World} {v : Value} {es : List Evt} (h : RdE hi w v es) : ∃ a c, v = .slice a es.length c := by
  rcases h with ⟨rfl, rfl⟩ | ⟨b, off, cap, rfl, hb, hc⟩
  · exact ⟨_, _, rfl⟩
  · exact ⟨_, _, rfl⟩
/-- The first one, or none. -/
def First (p : Evt → Bool) (es : List Evt) (z : Int) : Prop := (z = -1 ∧ ∀ x ∈ es, p x = false) ∨ ∃ k : Nat, ∃ hk : k < es.length, z = k ∧ p es[k] = true ∧ ∀ j (hj : j < k), p es[j] = false
theorem First.any {p : Evt → Bool} {es : List Evt} {z : Int} (h : First p es z) : decide (0 ≤ z) = es.any p := by
  rcases h with ⟨rfl, h⟩ | ⟨k, hk, rfl, h, -⟩
  · rw [show es.any p = false from by rw [List.any_eq_false]; exact fun x hx => by rw [h x hx]; simp]
    rfl
  · rw [show es.any p = true from List.any_eq_true.2 ⟨_, List.getElem_mem hk, h⟩]
    simp
set_option maxHeartbeats 1000000 in
set_option maxRecDepth 100000 in
theorem indexE_any (g : Nat) (cb : Array Value) (p : Evt → Bool) (hi : Nat) (v : Value) (es : List Evt) (w : World) (hr : RdE hi w v es) (hh : hi ≤ w.heap.size) (hlen : es.length ≤ 1000) (eg : ∀ args w, (callFunc g args).run Tryd.prog w = .ok (.enter g args) w)
    (hf : ∀ e ∈ es, ∀ W, Below w.heap.size w W → Calls Tryd.prog g (#[e.agg] ++ cb) W fun x w' => x = .returned (.bool (p e)) ∧ Below W.heap.size W w') :
    Calls Tryd.prog 54 #[v, .func (.func g) #[] cb] w fun e w' => ∃ z, e = .returned (.int .i64 z) ∧ First p es z ∧ Below w.heap.size w w' := by
  obtain ⟨a, c, rfl⟩ := hr.shape
  have HR := Lib.hid hr
  have HF := Lib.hid hf
  clear hr hf
  go_enter Tryd.func54, Tryd.ntmps54
  go_wp2
  go_loopg [8] es.length (fun kx i wr => ∃ k : Nat, k ≤ es.length ∧ i = .int .i64 k ∧ es.length - k ≤ kx ∧ Hid (∀ j (hj : j < k) (h2 : j < es.length), p es[j] = false) ∧ Below w.heap.size w wr)
  case atStart => exact ⟨0, by omega, rfl, by omega, fun j hj => absurd hj (by omega), Below.refl _ _⟩
  case round =>
    obtain ⟨k, hk, rfl, hkx, HN, hb⟩ := hrel
    by_cases hlt : k < es.length
    · have hltz : (k : Int) < (es.length : Int) := by omega
      obtain ⟨b, off, rfl, hbh, h7⟩ := HR.out.seven k hlt
      obtain ⟨c0, c1, c2, c3, c4, c5, c6⟩ := h7 wr (hb.mono hh)
      obtain ⟨e, he⟩ : ∃ e, e = es[k] := ⟨_, rfl⟩
      have HC := Lib.hid (HF.out e (by rw [he]; exact List.getElem_mem hlt) wr hb)
      rw [← he] at c0 c1 c2 c3 c4 c5 c6
      have HE := Lib.hid he
      clear h7 he
      simp only [Evt.agg] at HC
      cases hp : p e with
      | true =>
        have HPE := Lib.hid hp
        rw [hp] at HC
        clear hp
        go_wp2_with (go_at_fn g; refine HC.out.mono ?_; rintro e w2 ⟨rfl, hb2⟩)
        (try simp only [Exit.inBlock, Exit.then])
        refine bodyPost_ret (results_tmp rfl _ _ _) rfl ?_
        exact ⟨_, rfl, .inr ⟨k, hlt, rfl, by rw [← HE.out]; exact HPE.out, fun j hj => HN.out j hj (by omega)⟩, hb.step hb2⟩
      | false =>
        have HPE := Lib.hid hp
        rw [hp] at HC
        clear hp
        go_wp2_with (go_at_fn g; refine HC.out.mono ?_; rintro e w2 ⟨rfl, hb2⟩)
        go_roundg (es.length - (k + 1))
        case measure => omega
        case rel =>
          refine ⟨k + 1, hlt, by first | rfl | go_num | (congr 1; omega), Nat.le_refl _, (show Hid _ from fun j hj h2 => ?_), hb.step hb2⟩
          by_cases hjk : j = k
          · subst hjk; rw [← HE.out]; exact HPE.out
          · exact HN.out j (by omega) h2
    · have hltz : ¬ (k : Int) < (es.length : Int) := by omega
      go_wp2
      go_ret
      refine ⟨_, rfl, .inl ⟨rfl, fun x hx => ?_⟩, hb⟩
      obtain ⟨j, hj, rfl⟩ := List.getElem_of_mem hx
      exact HN.out j (by omega) hj
set_option maxHeartbeats 1000000 in
theorem containsE_any (g : Nat) (cb : Array Value) (p : Evt → Bool) (hi : Nat) (v : Value) (es : List Evt) (w : World) (hr : RdE hi w v es) (hh : hi ≤ w.heap.size) (hlen : es.length ≤ 1000) (eg : ∀ args w, (callFunc g args).run Tryd.prog w = .ok (.enter g args) w)
    (hf : ∀ e ∈ es, ∀ W, Below w.heap.size w W → Calls Tryd.prog g (#[e.agg] ++ cb) W fun x w' => x = .returned (.bool (p e)) ∧ Below W.heap.size W w') :
    Calls Tryd.prog 20 #[v, .func (.func g) #[] cb] w fun e w' => e = .returned (.bool (es.any p)) ∧ Below w.heap.size w w' := by
  have H := Lib.hid (indexE_any g cb p hi v es w hr hh hlen eg hf)
  obtain ⟨a, c, rfl⟩ := hr.shape
  clear hr hf
  go_enter Tryd.func20, Tryd.ntmps20
  go_wp2_with (go_at_call 54; refine H.out.mono ?_; rintro e w2 ⟨z, rfl, hz, hb2⟩)
  go_ret
  exact ⟨by rw [← hz.any]; first | rfl | simp, hb2⟩
set_option maxHeartbeats 1000000 in
theorem held1_any (e : Evt) (w : World) (hs : e.item.size ≤ 9223372036854775807) : Calls Tryd.prog 46 #[e.agg] w fun x w' => x = .returned (.bool (decide (60 < e.item.size))) ∧ Below w.heap.size w w' := by
  obtain ⟨i, s, k, q, p, o, d⟩ := e
  simp only at hs
  go_enter Tryd.func46, Tryd.ntmps46
  go_wp2
  go_ret
  exact ⟨by simp; omega, (Below.refl _ w).new _⟩
set_option maxHeartbeats 1000000 in
/-- held: few enough, none with a long item. -/
theorem held_any (hi : Nat) (v : Value) (es : List Evt) (w : World) (hr : RdE hi w v es) (hh : hi ≤ w.heap.size) (hsz : ∀ e ∈ es, e.item.size ≤ 9223372036854775807) (hlen : es.length ≤ 9223372036854775807) :
    Calls Tryd.prog 14 #[v] w fun e w' => e = .returned (.bool (decide (es.length ≤ 40) && !es.any fun e => decide (60 < e.item.size))) ∧ Below w.heap.size w w' := by
  obtain ⟨a, c, rfl⟩ := hr.shape
  by_cases h40 : es.length ≤ 40
  · have h40z : (es.length : Int) ≤ 40 := by omega
    have h40d : decide (es.length ≤ 40) = true := decide_eq_true h40
    have H := Lib.hid (containsE_any 46 #[] (fun e => decide (60 < e.item.size)) hi _ es w hr hh (by omega) (enters_of Tryd.func46 (by kernel_rfl) rfl) (fun e he W _ => held1_any e W (hsz e he)))
    rw [h40d]
    generalize (es.any fun e => decide (60 < e.item.size)) = q at H ⊢
    clear hr hsz h40d
    go_enter Tryd.func14, Tryd.ntmps14
    go_wp2_with (go_at_call 20; refine H.out.mono ?_; rintro e w2 ⟨rfl, hb2⟩)
    go_ret
    exact ⟨by simp, hb2⟩
  · have h40z : ¬ ((es.length : Int) ≤ 40) := by omega
    have h40d : decide (es.length ≤ 40) = false := decide_eq_false h40
    rw [h40d]
    clear hr hsz h40d
    go_enter Tryd.func14, Tryd.ntmps14
    go_wp2_with fail
    go_ret
    exact ⟨by simp, Below.refl _ _⟩
end Go.Proofs.YtefbedineniejaaDoor
end
