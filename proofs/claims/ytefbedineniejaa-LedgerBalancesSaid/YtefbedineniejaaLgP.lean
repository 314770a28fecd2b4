/- ledger.post and ledger.Post: what they hand back. -/
import Derived.Test.YtefbedineniejaaLgM
import Derived.Test.YtefbedineniejaaLawLift
import Derived.WalkKit
import Derived.WalkSpells
import Derived.WalkLawsBesides
import Derived.Deep.QuietTactic
import Derived.BigQuiet
import Derived.Handy
import Derived.Lib.Hide
namespace Go.Proofs.Ytefbedineniejaa
open Go.RowKit
set_option linter.unusedVariables false

theorem info_pst : (Try.prog.info? 37).map (fun i => (i.zero, i.size, i.bytes)) = some (some (.agg #[.string ⟨#[]⟩, .string ⟨#[]⟩, .int .i64 0]), 3, 40) := by kernel_rfl
theorem one_pst (p : Lg.P) : ∀ u ∈ Lg.cells p, u.oneCell' = true := by
  intro u hu
  simp only [Lg.cells, List.mem_cons, List.not_mem_nil, or_false] at hu
  rcases hu with rfl | rfl | rfl <;> rfl

/-- Postings of the call's own, from base on. -/
def OwnP (w : World) (base : Nat) (v : Value) (L : List Lg.P) : Prop := w.ownsRow base 37 3 v L.length (Lg.fl L)
def PostP (base : Nat) (L : List Lg.P) (w : World) (e : Ending) (w' : World) : Prop := ∃ v', e = .returned v' ∧ OwnP w' base v' L ∧ Below base w w'

theorem post_any (L : List Lg.P) (d c : ByteArray) (n : Int) (v : Value) (w : World) (base : Nat) (hbase : base ≤ w.heap.size) (hown0 : OwnP w base v L) (hL : L.length ≤ 1000) (h0 : -9223372036854775807 ≤ n) (h1 : n ≤ 9223372036854775807) :
    Calls Try.prog 18 #[v, .string d, .string c, .int .i64 n] w (PostP base (L ++ Lg.one d c n) w) := by
  obtain ⟨i0, hi, hiz, his, hib⟩ := info_parts info_pst
  have hown : w.ownsRow base 37 3 v L.length (Lg.fl L) := hown0
  by_cases c1 : 0 < n
  · have e1 : L ++ Lg.one d c n = L ++ [⟨d, c, n⟩] := by rw [Lg.one_pos c1]
    rw [e1]
    go_enter Try.func18, Try.ntmps18
    go_wp2_with (first
      | (at_builtin; refine app_one (w := w) rfl (.tmp 12) (.tmp 17) 26 rfl base 37 i0 (.agg #[.string ⟨#[]⟩, .string ⟨#[]⟩, .int .i64 0]) 3 40 Try.underlying26 hi hiz his hib rfl (by decide) _ _ _ hown rfl (Lg.cells ⟨d, c, n⟩) rfl rfl (one_pst _) (by unfold maxLen; omega) (by omega) hbase ?_; intro v2 w2 hown2 hg2))
    go_ret
    refine ⟨_, rfl, ?_, (Below.refl base w).owngrown hown hg2⟩
    unfold OwnP
    rw [Lg.fl_app, Lg.fl_one, List.length_append]
    exact hown2
  by_cases c2 : n < 0
  · have e1 : L ++ Lg.one d c n = L ++ [⟨c, d, -n⟩] := by rw [Lg.one_neg c2]
    rw [e1]
    go_enter Try.func18, Try.ntmps18
    go_wp2_with (first
      | (at_builtin; refine app_one (w := w) rfl (.tmp 22) (.tmp 28) 26 rfl base 37 i0 (.agg #[.string ⟨#[]⟩, .string ⟨#[]⟩, .int .i64 0]) 3 40 Try.underlying26 hi hiz his hib rfl (by decide) _ _ _ hown rfl (Lg.cells ⟨c, d, -n⟩) rfl rfl (one_pst _) (by unfold maxLen; omega) (by omega) hbase ?_; intro v2 w2 hown2 hg2))
    go_ret
    refine ⟨_, rfl, ?_, (Below.refl base w).owngrown hown hg2⟩
    unfold OwnP
    rw [Lg.fl_app, Lg.fl_one, List.length_append]
    exact hown2
  · have e1 : L ++ Lg.one d c n = L := by rw [Lg.one_zero c1 c2, List.append_nil]
    rw [e1]
    go_enter Try.func18, Try.ntmps18
    go_wp2
    go_ret
    exact ⟨_, rfl, hown, Below.refl base w⟩

/-- A number that may be turned. -/
def Fit (n : Int) : Prop := -9223372036854775807 ≤ n ∧ n ≤ 9223372036854775807

theorem OwnP.base {w : World} {b b' : Nat} {v : Value} {L : List Lg.P} (h : OwnP w b v L) (hb : b' ≤ b) : OwnP w b' v L := by
  obtain ⟨hl, h⟩ := h
  refine ⟨hl, ?_⟩
  rcases h with h | ⟨g, cap, cur, rfl, hB, r⟩
  · exact Or.inl h
  · exact Or.inr ⟨g, cap, cur, rfl, by omega, r⟩
theorem OwnP.below {w w' : World} {b : Nat} {v : Value} {L : List Lg.P} (h : OwnP w b v L) (hb : Below w.heap.size w w') : OwnP w' b v L := own_below h hb

set_option maxHeartbeats 1000000 in
theorem figPosts_any (i o l g t : Int) (w : World) (f1 : Fit i) (f2 : Fit o) (f3 : Fit l) (f4 : Fit g) (f5 : Fit t) :
    Calls Try.prog 9 #[.agg #[.int .i64 i, .int .i64 o, .int .i64 l, .int .i64 g, .int .i64 t]] w (PostP w.heap.size (Lg.figs i o l g t) w) := by
  have n1 := Lg.one_len Lg.stock Lg.supply i
  have n2 := Lg.one_len Lg.sold Lg.stock o
  have n3 := Lg.one_len Lg.loss Lg.stock l
  have n4 := Lg.one_len Lg.stock Lg.gain g
  have hb0 : Below w.heap.size w (w.alloc (.cells #[.int .i64 i, .int .i64 o, .int .i64 l, .int .i64 g, .int .i64 t] 23)) := (Below.refl _ _).new _
  have H1 := Lib.hid (fun w1 (h : w.heap.size + 1 ≤ w1.heap.size) => post_any [] Lg.stock Lg.supply i (.slice none 0 0) w1 (w.heap.size + 1) h (World.ownsRow_nil w1 _ _ _) (by simp) f1.1 f1.2)
  have H2 := Lib.hid (fun v w1 (h : w.heap.size + 1 ≤ w1.heap.size) (ho : OwnP w1 (w.heap.size + 1) v _) => post_any ([] ++ Lg.one Lg.stock Lg.supply i) Lg.sold Lg.stock o v w1 (w.heap.size + 1) h ho (by simp only [List.nil_append]; omega) f2.1 f2.2)
  have H3 := Lib.hid (fun v w1 (h : w.heap.size + 1 ≤ w1.heap.size) (ho : OwnP w1 (w.heap.size + 1) v _) => post_any ([] ++ Lg.one Lg.stock Lg.supply i ++ Lg.one Lg.sold Lg.stock o) Lg.loss Lg.stock l v w1 (w.heap.size + 1) h ho (by simp only [List.nil_append, List.length_append]; omega) f3.1 f3.2)
  have H4 := Lib.hid (fun v w1 (h : w.heap.size + 1 ≤ w1.heap.size) (ho : OwnP w1 (w.heap.size + 1) v _) => post_any ([] ++ Lg.one Lg.stock Lg.supply i ++ Lg.one Lg.sold Lg.stock o ++ Lg.one Lg.loss Lg.stock l) Lg.stock Lg.gain g v w1 (w.heap.size + 1) h ho (by simp only [List.nil_append, List.length_append]; omega) f4.1 f4.2)
  have H5 := Lib.hid (fun v w1 (h : w.heap.size + 1 ≤ w1.heap.size) (ho : OwnP w1 (w.heap.size + 1) v _) => post_any ([] ++ Lg.one Lg.stock Lg.supply i ++ Lg.one Lg.sold Lg.stock o ++ Lg.one Lg.loss Lg.stock l ++ Lg.one Lg.stock Lg.gain g) Lg.late Lg.supply t v w1 (w.heap.size + 1) h ho (by simp only [List.nil_append, List.length_append]; omega) f5.1 f5.2)
  have e5 : [] ++ Lg.one Lg.stock Lg.supply i ++ Lg.one Lg.sold Lg.stock o ++ Lg.one Lg.loss Lg.stock l ++ Lg.one Lg.stock Lg.gain g ++ Lg.one Lg.late Lg.supply t = Lg.figs i o l g t := by simp [Lg.figs]
  rw [e5] at H5
  clear n1 n2 n3 n4
  go_enter Try.func9, Try.ntmps9
  go_wp2_with fail
  refine (H1.out _ (by simp)).mono ?_
  rintro e w1 ⟨v1, rfl, ho1, hb1⟩
  have hB1 := hb1
  have hz1 : w.heap.size + 1 ≤ w1.heap.size := by have := hB1.size; simpa using this
  have hx1 : ∀ j, w1.cell? ⟨w.heap.size, j, none⟩ = (w.alloc (.cells #[.int .i64 i, .int .i64 o, .int .i64 l, .int .i64 g, .int .i64 t] 23)).cell? ⟨w.heap.size, j, none⟩ := fun j => hB1.cell (p := ⟨w.heap.size, j, none⟩) (by simp)
  have hl1 : w.heap.size < w1.heap.size := by omega
  go_wp2_with fail
  refine (H2.out _ _ hz1 ho1).mono ?_
  rintro e w2 ⟨v2, rfl, ho2, hb2⟩
  have hB2 := hB1.trans hb2
  have hz2 : w.heap.size + 1 ≤ w2.heap.size := by have := hB2.size; simpa using this
  have hx2 : ∀ j, w2.cell? ⟨w.heap.size, j, none⟩ = (w.alloc (.cells #[.int .i64 i, .int .i64 o, .int .i64 l, .int .i64 g, .int .i64 t] 23)).cell? ⟨w.heap.size, j, none⟩ := fun j => hB2.cell (p := ⟨w.heap.size, j, none⟩) (by simp)
  have hl2 : w.heap.size < w2.heap.size := by omega
  clear hx1 hl1 ho1 hb2
  go_wp2_with fail
  refine (H3.out _ _ hz2 ho2).mono ?_
  rintro e w3 ⟨v3, rfl, ho3, hb3⟩
  have hB3 := hB2.trans hb3
  have hz3 : w.heap.size + 1 ≤ w3.heap.size := by have := hB3.size; simpa using this
  have hx3 : ∀ j, w3.cell? ⟨w.heap.size, j, none⟩ = (w.alloc (.cells #[.int .i64 i, .int .i64 o, .int .i64 l, .int .i64 g, .int .i64 t] 23)).cell? ⟨w.heap.size, j, none⟩ := fun j => hB3.cell (p := ⟨w.heap.size, j, none⟩) (by simp)
  have hl3 : w.heap.size < w3.heap.size := by omega
  clear hx2 hl2 ho2 hb3
  go_wp2_with fail
  refine (H4.out _ _ hz3 ho3).mono ?_
  rintro e w4 ⟨v4, rfl, ho4, hb4⟩
  have hB4 := hB3.trans hb4
  have hz4 : w.heap.size + 1 ≤ w4.heap.size := by have := hB4.size; simpa using this
  have hx4 : ∀ j, w4.cell? ⟨w.heap.size, j, none⟩ = (w.alloc (.cells #[.int .i64 i, .int .i64 o, .int .i64 l, .int .i64 g, .int .i64 t] 23)).cell? ⟨w.heap.size, j, none⟩ := fun j => hB4.cell (p := ⟨w.heap.size, j, none⟩) (by simp)
  have hl4 : w.heap.size < w4.heap.size := by omega
  clear hx3 hl3 ho3 hb4
  go_wp2_with fail
  refine (H5.out _ _ hz4 ho4).mono ?_
  rintro e w5 ⟨v5, rfl, ho5, hb5⟩
  have hB5 := hB4.trans hb5
  go_wp2_with fail
  go_ret
  exact ⟨_, rfl, ho5.base (by omega), hb0.trans (hB5.mono (by omega))⟩
end Go.Proofs.Ytefbedineniejaa
