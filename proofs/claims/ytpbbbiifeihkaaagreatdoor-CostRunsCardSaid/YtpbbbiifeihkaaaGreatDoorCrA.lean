/- sameLayers; append at events; what lines and layers are equal to. -/
import Derived.Test.YtpbbbiifeihkaaaGreatDoorRuC
import Derived.Laws.StructEq
import Derived.LoopTactic
import Derived.Test.YtpbbbiifeihkaaaGreatDoorCaQn
import Derived.Test.YtpbbbiifeihkaaaGreatDoorOpenEs
namespace Go.Proofs.YtpbbbiifeihkaaaGreatDoor
open Go.RowKit
open Go.Maps (Keyed)
open Go.WideMaps
open Go.Proofs (encStr)
set_option linter.unusedVariables false

theorem line_eql (x : Ln) (w : World) : (Op.equalIn 10000 33 (.agg #[.int .i64 x.id, .int .i64 x.value, .int .i64 x.short, .int .i64 x.late, .bool x.gain]) (.agg #[.int .i64 x.id, .int .i64 x.value, .int .i64 x.short, .int .i64 x.late, .bool x.gain])).run Tryz.prog w = .ok true w := by
  have u3 := Tryz.underlying3
  have a3 := Tryz.isAgg3
  have z3 := Tryz.sizeOf3
  have u4 := Tryz.underlying4
  have a4 := Tryz.isAgg4
  have z4 := Tryz.sizeOf4
  have hS : Tryz.prog.underlying 33 = some (.struct (Tryz.prog.fieldsOf 33)) := by kernel_rfl
  have hp : Tryz.prog.stoodInHeld 33 = false := by kernel_rfl
  rw [show (10000 : Nat) = 9999 + 1 from rfl, run_equalIn_agg w 9999 33 _ _ hS hp]
  simp only [Program.fieldsOf, Tryz.underlying33]
  go_simp
theorem layer_eql (x : Lay) (w : World) : (Op.equalIn 10000 96 (.agg #[.int .i64 x.id, .int .i64 x.qty, .int .i64 x.val]) (.agg #[.int .i64 x.id, .int .i64 x.qty, .int .i64 x.val])).run Tryz.prog w = .ok true w := by
  have u3 := Tryz.underlying3
  have a3 := Tryz.isAgg3
  have z3 := Tryz.sizeOf3
  have hS : Tryz.prog.underlying 96 = some (.struct (Tryz.prog.fieldsOf 96)) := by kernel_rfl
  have hp : Tryz.prog.stoodInHeld 96 = false := by kernel_rfl
  rw [show (10000 : Nat) = 9999 + 1 from rfl, run_equalIn_agg w 9999 96 _ _ hS hp]
  simp only [Program.fieldsOf, Tryz.underlying96]
  go_simp
set_option maxHeartbeats 1000000 in
set_option maxRecDepth 100000 in
theorem sameLayers_any (ls : List Lay) (v1 v2 : Value) (w : World) (hL : ls.length ≤ 1000) (h1 : RdY w v1 ls) (h2 : RdY w v2 ls) :
    Calls Tryz.prog 11 #[v1, v2] w (Gives (.bool true) w) := by
  obtain ⟨a, c1, rfl, -⟩ := id h1
  obtain ⟨b, c2, rfl, -⟩ := id h2
  have H1 := Lib.hid h1
  have H2 := Lib.hid h2
  clear h1 h2
  have hne : ((ls.length : Int) != (ls.length : Int)) = false := by simp
  go_enter Tryz.func11, Tryz.ntmps11
  go_wp2
  go_loopw [5] (fun i wr => ∃ k q : Nat, k ≤ ls.length ∧ i = .int .i64 k ∧ wr = w.drewN q) (fun i _ => ls.length - (intOf i).toNat)
  case atStart => exact ⟨0, 0, by omega, rfl, rfl⟩
  case round =>
    obtain ⟨k, q, hk, rfl, rfl⟩ := hrel
    by_cases hlt : k < ls.length
    · obtain ⟨-, b1, o1, rfl, p0, p1, p2⟩ := H1.out.at k hlt
      obtain ⟨-, b2, o2, rfl, q0, q1, q2⟩ := H2.out.at k hlt
      obtain ⟨p, hp⟩ : ∃ p, p = ls[k] := ⟨_, rfl⟩
      rw [← hp] at p0 p1 p2 q0 q1 q2
      clear hp
      have hs := layer_eql p
      go_wp2
      go_quiet (fail)
      go_wp2
      go_roundw
      case rel => exact ⟨k + 1, _, by omega, by go_num, rfl⟩
      case measure => simp [intOf]; omega
    · go_wp2
      go_ret
      exact ⟨rfl, below_drewN (Below.refl _ _) q⟩
/-- 'append(row, xs...)' at events, the row the call's own. -/
theorem wpList_appE {w : World} {ops : Array Oper} {rest : List Oper} {o : Oper} {a : Act} {Q : Exit → Act → World → Prop} (hgd : o.guard = none) (s x : Operand)
    (ho : o.op = .call { callee := .builtin .append, args := #[s, x], argTypes := #[22, 22] }) (base hi : Nat) (v vx : Value) (ls es : List Evt) (hs : a.eval s = v) (hown : w.ownsRow base 24 7 v ls.length (flE ls))
    (hx : a.eval x = vx) (hr : RdE hi w vx es) (hb : ls.length + es.length ≤ 100000) (hbase : base ≤ w.heap.size)
    (h : ∀ a' n' c' w', w'.ownsRow base 24 7 (.slice a' n' c') (ls ++ es).length (flE (ls ++ es)) → w.grownBy w' v.ownBlock → wpList Tryz.prog ops Q rest (a.put o.dst (.slice a' n' c')) w') : wpList Tryz.prog ops Q (o :: rest) a w := by
  obtain ⟨i0, hinf, hiz, his, hib⟩ := info_parts info_evt
  rcases id hr with ⟨rfl, rfl⟩ | ⟨b, off, cap, rfl, -, -⟩
  · obtain ⟨a', c', rfl⟩ := own_slice hown
    exact wpList_append_own_none hgd s x 22 ho base 24 i0 7 Tryz.underlying22 hinf _ ls.length (flE ls) hs hown hx (by rw [← hs]; rw [hs]; exact h a' _ c' w (by simpa using hown) (gb_refl _ _))
  · refine wpList_append_own _ hgd s x 22 ho base 24 i0 (.agg #[.int .i64 0, .string ⟨#[]⟩, .int .i64 0, .int .i64 0, .int .i64 0, .int .i64 0, .int .i64 0]) 7 64 Tryz.underlying22 hinf hiz his hib rfl (by decide) v ls.length (flE ls) hs hown ⟨b, off, none⟩ es.length cap (flE es) hx (flE_len es) (fun j u hj => rdE_cells hr j u hj) (one_flE es) (by unfold maxLen; omega) (by omega) hbase ?_
    intro v' w' h2 h3 _
    obtain ⟨a', c', rfl⟩ := own_slice h2
    exact h a' _ c' w' (by rw [show flE (ls ++ es) = flE ls ++ flE es by simp [flE], List.length_append]; exact h2) h3
/-- Two lots of layers that hold the same have as many items. -/
theorem kept_size {w w' : World} {b b' : Nat} {L : List UInt8 → List Lay} (h : Kept w b L) (h' : Kept w' b' L) : ∃ (ks ks' : List Lit) (f f' : Lit → Value), ks.length = ks'.length ∧ MV Tryz.prog 9 (.slice none 0 0) w b ks f ∧ MV Tryz.prog 9 (.slice none 0 0) w' b' ks' f' ∧ (∀ l, RdY w (f (.string l)) (L l)) ∧ (∀ l, RdY w' (f' (.string l)) (L l)) ∧ ∀ x ∈ ks, ∃ l, x = .string l := by
  obtain ⟨ks, f, h1, h2, h3⟩ := h
  obtain ⟨ks', f', h1', h2', h3'⟩ := h'
  have key : ∀ {W : World} {bb : Nat} {kk : List Lit} {ff : Lit → Value} (m : MV Tryz.prog 9 (.slice none 0 0) W bb kk ff) (r : ∀ l, RdY W (ff (.string l)) (L l)) (l : List UInt8), L l ≠ [] → (.string l) ∈ kk := by
    intro W bb kk ff m r l hl
    apply Classical.byContradiction
    intro hn
    have := r l
    rw [m.zero _ hn] at this
    obtain ⟨a, c, e1, -⟩ := this
    injection e1 with e1 e2 e3
    exact hl (List.length_eq_zero_iff.1 e2.symm)
  refine ⟨ks, ks', f, f', ?_, h1, h1', h2, h2', fun x hx => (h3 x hx).imp fun l h => h.1⟩
  refine ((List.perm_ext_iff_of_nodup h1.nd h1'.nd).2 fun x => ⟨fun hx => ?_, fun hx => ?_⟩).length_eq
  · obtain ⟨l, rfl, hl⟩ := h3 x hx; exact key h1' h2' l hl
  · obtain ⟨l, rfl, hl⟩ := h3' x hx; exact key h1 h2 l hl
theorem key_some {e : Evt} (h : e.right = true) : e.key ≠ [] := by
  obtain ⟨h1, -⟩ : Ev.RightP _ _ _ _ _ _ := of_decide_eq_true h
  exact h1.1
theorem one_nil (st : Stk) (e : Evt) (h : e.key ≠ []) (h0 : st.lay [] = []) : (oneP st e).2.lay [] = [] := by
  unfold oneP
  (repeat' split) <;> simp only [updL_other _ _ (Ne.symm h), h0]
/-- There is nothing of what has no name. -/
theorem run_nil (es : List Evt) : ∀ st : Stk, st.lay [] = [] → (runP st es).2.lay [] = [] := by
  induction es with
  | nil => intro st h; exact h
  | cons e es ih =>
    intro st h
    rw [runP]
    split
    · rename_i hr
      exact ih _ (one_nil st e (key_some hr) h)
    · exact ih _ h
end Go.Proofs.YtpbbbiifeihkaaaGreatDoor
