/- slices.Clone at postings of the call's own; 'append(out, xs...)' where both are the call's own. -/
import Derived.Test.YtefbedineniejaaLgP
import Derived.Laws.AppendOwnNone
namespace Go.Proofs.Ytefbedineniejaa
open Go.RowKit
set_option linter.unusedVariables false

/-- 'append(out, xs...)'. -/
theorem app_own {P : Program} {w : World} {ops : Array Oper} {rest : List Oper} {o : Oper} {a : Act} {Q : Exit → Act → World → Prop} (hgd : o.guard = none) (s x : Operand) (t : TypeId)
    (ho : o.op = .call { callee := .builtin .append, args := #[s, x], argTypes := #[t, t] })
    (base base' : Nat) (e : TypeId) (i : TypeInfo) (z : Value) (size bytes : Nat) (ht : P.underlying t = some (.slice e)) (hi : P.info? e = some i) (hz : i.zero = some z)
    (hsize : i.size = size) (hby : i.bytes = bytes) (hzs : z.cells.size = size) (hsz : 0 < size)
    (v : Value) (n : Nat) (xs : List Value) (hown : w.ownsRow base e size v n xs) (hs : a.eval s = v)
    (y : Value) (m : Nat) (us : List Value) (hy : w.ownsRow base' e size y m us) (hx : a.eval x = y) (h1 : ∀ u ∈ us, u.oneCell' = true)
    (h63 : n + m ≤ maxLen) (hbytes : (n + m) * bytes ≤ 140737488355328) (hbase : base ≤ w.heap.size)
    (h : ∀ v' w', w'.ownsRow base e size v' (n + m) (xs ++ us) → w.grownBy w' v.ownBlock → wpList P ops Q rest (a.put o.dst v') w') :
    wpList P ops Q (o :: rest) a w := by
  obtain ⟨hul, hy2⟩ := hy
  rcases hy2 with ⟨rfl, h0⟩ | ⟨g, cap, cur, rfl, hB, hc, hn, hm, hs', ht'⟩
  · subst h0
    obtain rfl : us = [] := List.length_eq_zero_iff.1 (by simpa using hul)
    subst hsize
    refine wpList_append_own_none hgd s x t ho base e i i.size ht hi v n xs hs hown hx ?_
    refine h v w (by simpa using hown) ?_
    exact ⟨rfl, rfl, rfl, Nat.le_refl _, fun _ _ _ => rfl⟩
  · refine wpList_append_own _ hgd s x t ho base e i z size bytes ht hi hz hsize hby hzs hsz v n xs hs hown ⟨g, 0, none⟩ m cap us hx hul ?_ h1 h63 hbytes hbase fun v' w' h2 h3 _ => h v' w' h2 h3
    intro j u hj
    have e0 : (⟨g, 0, none⟩ : Addr).add j = ⟨g, j, none⟩ := by simp [Addr.add]; omega
    rw [e0]
    have hjl : j < us.length := by
      apply Classical.byContradiction; intro hn'; rw [List.getElem?_eq_none (by omega)] at hj; cases hj
    have h4 : (cur.toList.take (m * size))[j]? = us[j]? := by rw [ht']
    rw [List.getElem?_take_of_lt (by omega), hj] at h4
    simp only [World.cell?, hc]
    simpa using h4
theorem fl_one (L : List Lg.P) : ∀ u ∈ Lg.fl L, u.oneCell' = true := by
  intro u hu
  simp only [Lg.fl, List.mem_flatMap] at hu
  obtain ⟨p, -, hp⟩ := hu
  exact one_pst p u hp
theorem own_empty (w : World) (base : Nat) (e : TypeId) (size : Nat) (hb : base ≤ w.heap.size) : (w.alloc (.cells #[] e)).ownsRow base e size (.slice (some ⟨w.heap.size, 0, none⟩) 0 0) 0 [] :=
  ⟨by simp, Or.inr ⟨w.heap.size, 0, #[], rfl, hb, by show (w.heap.push _)[w.heap.size]? = _; simp, by omega, by simp [maxLen], by simp, by simp⟩⟩

set_option maxHeartbeats 1000000 in
set_option maxRecDepth 100000 in
theorem clone_any (L : List Lg.P) (v : Value) (w : World) (base : Nat) (h : OwnP w base v L) (hL : L.length ≤ 1000) :
    Calls Try.prog 10 #[v] w (PostP w.heap.size L w) := by
  obtain ⟨i0, hi, hiz, his, hib⟩ := info_parts info_pst
  have h2 := h
  rcases h.2 with ⟨rfl, h0⟩ | ⟨g, cap, cur, rfl, hB, hc, hn, hm, hs, ht⟩
  · obtain rfl : L = [] := List.length_eq_zero_iff.1 h0
    go_enter Try.func10, Try.ntmps10
    have k0 := fun (w : World) => Lib.run_eql_slice_nil (P := Try.prog) w
    go_wp2
    go_ret
    exact ⟨_, rfl, World.ownsRow_nil _ _ _ _, Below.refl _ _⟩
  · have k0 := fun (w : World) => Lib.run_eql_slice_nil (P := Try.prog) w 26 37 (some ⟨g, 0, none⟩) L.length cap 0 0 Try.underlying26
    go_enter Try.func10, Try.ntmps10
    go_wp2_with (first
      | (at_builtin; refine app_own (w := w.alloc (.cells #[] 37)) rfl (.tmp 5) (.tmp 6) 26 rfl w.heap.size base 37 i0 (.agg #[.string ⟨#[]⟩, .string ⟨#[]⟩, .int .i64 0]) 3 40 Try.underlying26 hi hiz his hib rfl (by decide) _ _ _ (own_empty _ _ _ _ (Nat.le_refl _)) rfl _ _ _ (World.ownsRow.alloc h2 _) rfl (fl_one L) (by unfold maxLen; omega) (by omega) (by simp) ?_; intro v2 w2 hown2 hg2))
    go_ret
    refine ⟨v2, rfl, ?_, ((Below.refl _ w).new _).owngrown (own_empty _ _ 37 3 (Nat.le_refl _)) hg2 (by simp)⟩
    unfold OwnP
    simpa using hown2
end Go.Proofs.Ytefbedineniejaa
