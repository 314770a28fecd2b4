/- Joined: CsO, CsP. -/
import Derived.Test.YtackpcohmmlkeaaGreatDoorCsPa
import Derived.Deep.LoopGhost

/- CsO: cost.Result's Sum: how many are left of an item, of which value. -/
section
namespace Go.Proofs.YtackpcohmmlkeaaGreatDoor
open Go.RowKit
open Go.Maps (Keyed)
set_option linter.unusedVariables false

end Go.Proofs.YtackpcohmmlkeaaGreatDoor
end

/- CsP: Events in a slice: finding one; which are few enough; numbering them. -/
section
namespace Go.Proofs.YtackpcohmmlkeaaGreatDoor
open Go.RowKit
open Go.Maps (Keyed)
set_option linter.unusedVariables false

set_option maxHeartbeats 1000000 in
theorem containsE_any (g : Nat) (cb : Array Value) (p : Evt → Bool) (hi : Nat) (v : Value) (es : List Evt) (w : World) (hr : RdE hi w v es) (hh : hi ≤ w.heap.size) (hlen : es.length ≤ 1000) (eg : ∀ args w, (callFunc g args).run Tryz.prog w = .ok (.enter g args) w)
    (hf : ∀ e ∈ es, ∀ W, Below w.heap.size w W → Calls Tryz.prog g (#[e.agg] ++ cb) W fun x w' => x = .returned (.bool (p e)) ∧ Below W.heap.size W w') :
    Calls Tryz.prog 36 #[v, .func (.func g) #[] cb] w fun e w' => e = .returned (.bool (es.any p)) ∧ Below w.heap.size w w' := by
  have H := Lib.hid (indexE_any g cb p hi v es w hr hh hlen eg hf)
  obtain ⟨a, c, rfl⟩ := hr.shape
  clear hr hf
  go_enter Tryz.func36, Tryz.ntmps36
  go_wp2_with (go_at_call 41; refine H.out.mono ?_; rintro e w2 ⟨z, rfl, hz, hb2⟩)
  go_ret
  exact ⟨by rw [← hz.any]; first | rfl | simp, hb2⟩
set_option maxHeartbeats 1000000 in
theorem held1_any (e : Evt) (w : World) (hs : e.item.size ≤ 9223372036854775807) : Calls Tryz.prog 37 #[e.agg] w fun x w' => x = .returned (.bool (decide (60 < e.item.size))) ∧ Below w.heap.size w w' := by
  obtain ⟨i, s, k, q, p, o, d⟩ := e
  simp only at hs
  go_enter Tryz.func37, Tryz.ntmps37
  go_wp2
  go_ret
  exact ⟨by simp; omega, (Below.refl _ w).new _⟩
set_option maxHeartbeats 1000000 in
/-- held: few enough, none with a long item. -/
theorem held_any (hi : Nat) (v : Value) (es : List Evt) (w : World) (hr : RdE hi w v es) (hh : hi ≤ w.heap.size) (hsz : ∀ e ∈ es, e.item.size ≤ 9223372036854775807) (hlen : es.length ≤ 9223372036854775807) :
    Calls Tryz.prog 7 #[v] w fun e w' => e = .returned (.bool (decide (es.length ≤ 40) && !es.any fun e => decide (60 < e.item.size))) ∧ Below w.heap.size w w' := by
  obtain ⟨a, c, rfl⟩ := hr.shape
  by_cases h40 : es.length ≤ 40
  · have h40z : (es.length : Int) ≤ 40 := by omega
    have h40d : decide (es.length ≤ 40) = true := decide_eq_true h40
    have H := Lib.hid (containsE_any 37 #[] (fun e => decide (60 < e.item.size)) hi _ es w hr hh (by omega) (enters_of Tryz.func37 (by kernel_rfl) rfl) (fun e he W _ => held1_any e W (hsz e he)))
    rw [h40d]
    generalize (es.any fun e => decide (60 < e.item.size)) = q at H ⊢
    clear hr hsz h40d
    go_enter Tryz.func7, Tryz.ntmps7
    go_wp2_with (go_at_call 36; refine H.out.mono ?_; rintro e w2 ⟨rfl, hb2⟩)
    go_ret
    exact ⟨by simp, hb2⟩
  · have h40z : ¬ ((es.length : Int) ≤ 40) := by omega
    have h40d : decide (es.length ≤ 40) = false := decide_eq_false h40
    rw [h40d]
    clear hr hsz h40d
    go_enter Tryz.func7, Tryz.ntmps7
    go_wp2_with fail
    go_ret
    exact ⟨by simp, Below.refl _ _⟩
end Go.Proofs.YtackpcohmmlkeaaGreatDoor
end
