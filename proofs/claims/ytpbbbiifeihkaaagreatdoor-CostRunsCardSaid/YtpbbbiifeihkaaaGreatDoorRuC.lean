/- tallymanref.Run's 'lay': a layer more, in a new row. (Printed by wip/gen_rulay.py.) -/
import Derived.Test.YtpbbbiifeihkaaaGreatDoorRuB
import Derived.Deep.RegionHeld3
import Derived.Laws.AppendOwnNone
namespace Go.Proofs.YtpbbbiifeihkaaaGreatDoor
open Go.RowKit
open Go.Maps (Keyed)
set_option linter.unusedVariables false

theorem gb_refl (w : World) (r : Option Nat) : w.grownBy w r := ⟨rfl, rfl, rfl, Nat.le_refl _, fun _ _ _ => rfl⟩
set_option maxRecDepth 100000 in
/-- 'append(row, xs...)', the row the call's own, xs whatever row of layers. -/
theorem wp_appY {w : World} {o : Oper} {a : Act} {K : Act → World → Prop} {Q : Exit → Act → World → Prop} (s x : Operand)
    (ho : o.op = .call { callee := .builtin .append, args := #[s, x], argTypes := #[34, 34] }) (base : Nat) (v vx : Value) (ls ns : List Lay) (hs : a.eval s = v) (hown : w.ownsRow base 96 3 v ls.length (flY ls))
    (hx : a.eval x = vx) (hr : RdY w vx ns) (hb : ls.length + ns.length ≤ 100000) (hbase : base ≤ w.heap.size)
    (hk : ∀ v' w', w'.ownsRow base 96 3 v' (ls ++ ns).length (flY (ls ++ ns)) → w.grownBy w' v.ownBlock → K (a.put o.dst v') w') : o.wp Tryz.prog a w K Q := by
  obtain ⟨i0, hinf, hiz, his, hib⟩ := info_layP
  obtain ⟨ax, c, rfl, h1, h2, h3, h4, h5⟩ := hr
  cases ax with
  | none =>
    have hc := h3 rfl
    subst hc
    have hnil : ns = [] := List.eq_nil_of_length_eq_zero (by omega)
    subst hnil
    have hrun := run_append_owned_none (P := Tryz.prog) (w := w) base 34 o.type 96 i0 3 Tryz.underlying34 hinf v ls.length (flY ls) hown
    unfold Oper.wp execOp
    simp only [List.length_nil] at hx
    simp only [ho, resolve, invoke, builtin, Sem.run_bind, Sem.run_pure, Result.andThen_ok, List.map_toArray, List.map_cons, List.map_nil, hs, hx, hrun]
    exact hk _ _ (by simpa using hown) (gb_refl _ _)
  | some ad =>
    refine wp_append_own w s x 34 ho base 96 i0 (.agg #[.int .i64 0, .int .i64 0, .int .i64 0]) 3 24 Tryz.underlying34 hinf hiz his hib rfl (by decide) v ls.length (flY ls) hs hown ad ns.length c (flY ns) hx (flY_len ns) (fun j u hj => ?_) (one_lay ns) (by unfold maxLen; omega) (by omega) hbase ?_
    · have hjl : j < (flY ns).length := (List.getElem?_eq_some_iff.1 hj).1
      obtain ⟨b, off, hb', hc⟩ := h4 j hjl
      injection hb' with hb'
      subst hb'
      have e0 : (⟨b, off, none⟩ : Addr).add j = ⟨b, off + j, none⟩ := by simp [Addr.add]
      rw [e0, hc, List.getD_eq_getElem?_getD, hj]
      rfl
    · intro v' w' h2' h3' _
      exact hk v' w' (by rw [flY_app, List.length_append]; exact h2') h3'
theorem QW.nocell {w : World} {B bl bm c : Nat} {L : List UInt8 → List Lay} {G : List UInt8 → Int} (h : QW w B bl bm c L G) : (∀ o, w.cell? ⟨bl, o, none⟩ = none) ∧ ∀ o, w.cell? ⟨bm, o, none⟩ = none := by
  obtain ⟨ne, ⟨ks, f, m1, -⟩, ⟨km, g, n1, -⟩⟩ := h
  exact ⟨mv_nocell m1, mv_nocell n1⟩
def LayS (R X bl : Nat) (i : Int) (s : ByteArray) (w : World) : Prop := w.cell? ⟨R, 1, none⟩ = some (.map (some bl)) ∧ w.cell? ⟨X, 0, none⟩ = some (.int .i64 i) ∧ w.cell? ⟨X, 1, none⟩ = some (.string s)
theorem RdY.grown {w w' : World} {v : Value} {ls : List Lay} {g : Nat} (h : RdY w v ls) (hg : w.grownBy w' (some g)) (hne : v.ownBlock ≠ some g) : RdY w' v ls := by
  obtain ⟨a, c, rfl, h1, h2, h3, h4, h5⟩ := h
  have same : ∀ p : Addr, a = some p → w.heap[p.block]? ≠ none → w'.heap[p.block]? = w.heap[p.block]? := fun p hp hn => by
    refine hg.block _ ?_ (fun e => hne (by subst hp; exact e))
    apply Classical.byContradiction
    intro hh
    exact hn (Array.getElem?_eq_none (by omega))
  refine ⟨a, c, rfl, h1, h2, h3, fun j hj => ?_, fun p hp => ?_⟩
  · obtain ⟨b, off, hb, hc⟩ := h4 j hj
    refine ⟨b, off, hb, ?_⟩
    rw [← hc]
    exact World.cell?_of_block (same ⟨b, off, none⟩ hb (fun e => by simp only [World.cell?, e] at hc; cases hc))
  · obtain ⟨cu, f, hc⟩ := h5 p hp
    exact ⟨cu, f, (same _ hp (by rw [hc]; simp)).trans hc⟩
set_option maxHeartbeats 4000000 in
set_option maxRecDepth 100000 in
theorem refLay_any (R X B bl bm c : Nat) (L : List UInt8 → List Lay) (G : List UInt8 → Int) (s : ByteArray) (i q v : Int) (w : World) (h : QW w B bl bm c L G) (hR : w.cell? ⟨R, 1, none⟩ = some (.map (some bl))) (hX0 : w.cell? ⟨X, 0, none⟩ = some (.int .i64 i)) (hX1 : w.cell? ⟨X, 1, none⟩ = some (.string s)) (hB : B ≤ w.heap.size) (hs : s.size ≤ maxLen) (hc : c < 1000000) (hl : (L s.data.toList).length ≤ 1000) :
    Calls Tryz.prog 37 #[.int .i64 q, .int .i64 v, .pointer (some ⟨R, 0, none⟩), .pointer (some ⟨X, 0, none⟩)] w fun e w' => e = .returned (.tuple #[]) ∧ QW w' B bl bm (c + 1) (updL L s.data.toList (L s.data.toList ++ [⟨i, q, v⟩])) G ∧ Li bl bm w w' := by
  obtain ⟨vv, hr, hlook⟩ := h.looks s hs
  have HLK : Hid (∀ W, Below w.heap.size w W → (Instr.lookup 26 (.map (some bl)) (.string s) false).run Tryz.prog W = .ok vv W) := hlook
  have HSET : Aside (∀ (W : World) (v : Value) (ls : List Lay), Below w.heap.size w W → W.ownsRow w.heap.size 96 3 v ls.length (flY ls) → ∃ w', (Instr.mapUpdate 26 (.map (some bl)) (.string s) v).run Tryz.prog W = .ok () w' ∧ QW w' B bl bm (c + 1) (updL L s.data.toList ls) G ∧ Li bl bm W w') :=
    fun W v ls hb hv => h.set hb hB s hs (by unfold maxLen; omega) v ls hv
  have HR1 : Hid (∀ W, Below w.heap.size w W → W.cell? ⟨R, 1, none⟩ = some (.map (some bl))) := fun W hb => (hb.cell (cell_blk hR)).trans hR
  have HX0 : Hid (∀ W, Below w.heap.size w W → W.cell? ⟨X, 0, none⟩ = some (.int .i64 i)) := fun W hb => (hb.cell (cell_blk hX0)).trans hX0
  have HX1 : Hid (∀ W, Below w.heap.size w W → W.cell? ⟨X, 1, none⟩ = some (.string s)) := fun W hb => (hb.cell (cell_blk hX1)).trans hX1
  have HRY : Aside (∀ W, Below w.heap.size w W → RdY W vv (L s.data.toList)) := fun W hb => hr.below hb
  generalize L s.data.toList = ls at hl HRY ⊢
  have HS : Hid (∀ W, Below w.heap.size w W → LayS R X bl i s W) := fun W hb => ⟨HR1.out W hb, HX0.out W hb, HX1.out W hb⟩
  have n1 := h.nocell
  have HSL : Hid (∀ W W', Below w.heap.size w W → Li bl bm W W' → LayS R X bl i s W') := fun W W' hb hl =>
    have k := (Li.of_below (bl := bl) (bm := bm) hb).trans hl
    ⟨k.cell hR (fun e => by rw [show R = bl from e, n1.1] at hR; cases hR) (fun e => by rw [show R = bm from e, n1.2] at hR; cases hR), k.cell hX0 (fun e => by rw [show X = bl from e, n1.1] at hX0; cases hX0) (fun e => by rw [show X = bm from e, n1.2] at hX0; cases hX0), k.cell hX1 (fun e => by rw [show X = bl from e, n1.1] at hX1; cases hX1) (fun e => by rw [show X = bm from e, n1.2] at hX1; cases hX1)⟩
  clear h hR hX0 hX1 hlook hr n1
  go_enter Tryz.func37, Tryz.ntmps37
  go_wp2_with fail
  obtain ⟨W0, hW0⟩ : ∃ W0, W0 = w.drew := ⟨_, rfl⟩
  have HB0 : Below w.heap.size w W0 := by rw [hW0]; exact (Below.refl _ w).drew
  refine wp_region_held_drew (S := LayS R X bl i s) (by kernel_rfl) (by rw [← hW0]; exact HS.out _ HB0) (fun hHeld => ?_)
  rw [← hW0] at hHeld ⊢
  clear hW0
  refine wpAnyH_take (i := 0) (v := ?_) rfl (by kernel_rfl) (by kernel_rfl) (by kernel_rfl) (fun _ _ _ h => h) (Or.inl ⟨by rfl, ?_⟩) hHeld ?_
  rotate_left
  · intro W hSw; go_simp; try (with_reducible rfl)
  refine wpAnyH_take (i := 1) (v := ?_) rfl (by kernel_rfl) (by kernel_rfl) (by kernel_rfl) (fun _ _ _ h => h) (Or.inl ⟨by rfl, ?_⟩) hHeld ?_
  rotate_left
  · intro W hSw; obtain ⟨q1, q2, q3⟩ := hSw; go_simp; try (with_reducible rfl)
  refine wpAnyH_take (i := 2) (v := ?_) rfl (by kernel_rfl) (by kernel_rfl) (by kernel_rfl) (fun _ _ _ h => h) (Or.inl ⟨by rfl, ?_⟩) hHeld ?_
  rotate_left
  · intro W hSw; go_simp; try (with_reducible rfl)
  refine wpAnyH_take (i := 3) (v := ?_) rfl (by kernel_rfl) (by kernel_rfl) (by kernel_rfl) (fun _ _ _ h => h) (Or.inl ⟨by rfl, ?_⟩) hHeld ?_
  rotate_left
  · intro W hSw; obtain ⟨q1, q2, q3⟩ := hSw; go_simp; try (with_reducible rfl)
  refine wpAnyH_take (i := 5) (v := ?_) rfl (by kernel_rfl) (by kernel_rfl) (by kernel_rfl) (fun _ _ _ h => h) (Or.inl ⟨by rfl, ?_⟩) hHeld ?_
  rotate_left
  · intro W hSw; go_simp; try (with_reducible rfl)
  refine wpAnyH_take (i := 6) (v := ?_) rfl (by kernel_rfl) (by kernel_rfl) (by kernel_rfl) (fun _ _ _ h => h) (Or.inl ⟨by rfl, ?_⟩) hHeld ?_
  rotate_left
  · intro W hSw; obtain ⟨q1, q2, q3⟩ := hSw; go_simp; try (with_reducible rfl)
  refine wpAnyH_take (i := 7) (v := ?_) rfl (by kernel_rfl) (by kernel_rfl) (by kernel_rfl) (fun _ _ _ h => h) (Or.inl ⟨by rfl, ?_⟩) hHeld ?_
  rotate_left
  · intro W hSw; go_simp; try (with_reducible rfl)
  refine wpAnyH_take (i := 8) (v := ?_) rfl (by kernel_rfl) (by kernel_rfl) (by kernel_rfl) (fun _ _ _ h => h) (Or.inl ⟨by rfl, ?_⟩) hHeld ?_
  rotate_left
  · intro W hSw; obtain ⟨q1, q2, q3⟩ := hSw; go_simp; try (with_reducible rfl)
  refine wpAnyH_take (i := 11) (v := ?_) rfl (by kernel_rfl) (by kernel_rfl) (by kernel_rfl) (fun _ _ _ h => h) (Or.inl ⟨by rfl, ?_⟩) hHeld ?_
  rotate_left
  · intro W hSw; go_simp; try (with_reducible rfl)
  refine wpAnyH_take (i := 12) (v := ?_) rfl (by kernel_rfl) (by kernel_rfl) (by kernel_rfl) (fun _ _ _ h => h) (Or.inl ⟨by rfl, ?_⟩) hHeld ?_
  rotate_left
  · intro W hSw; obtain ⟨q1, q2, q3⟩ := hSw; go_simp; try (with_reducible rfl)
  refine wpAnyH_take (i := 13) (v := ?_) rfl (by kernel_rfl) (by kernel_rfl) (by kernel_rfl) (fun _ _ _ h => h) (Or.inl ⟨by rfl, ?_⟩) hHeld ?_
  rotate_left
  · intro W hSw; go_simp; try (with_reducible rfl)
  refine wpAnyH_take (i := 14) (v := ?_) rfl (by kernel_rfl) (by kernel_rfl) (by kernel_rfl) (fun _ _ _ h => h) (Or.inl ⟨by rfl, ?_⟩) hHeld ?_
  rotate_left
  · intro W hSw; go_simp; try (with_reducible rfl)
  refine wpAnyH_take (i := 15) (v := ?_) rfl (by kernel_rfl) (by kernel_rfl) (by kernel_rfl) (fun _ _ _ h => h) (Or.inl ⟨by rfl, ?_⟩) hHeld ?_
  rotate_left
  · intro W hSw; go_simp; try (with_reducible rfl)
  refine wpAnyH_ready (rs := [4, 9, 16]) (by kernel_rfl) (by simp) (AllReadyH.cons rfl (fun K hK => ?_) (AllReadyH.cons rfl (fun K hK => ?_) (AllReadyH.cons rfl (fun K hK => ?_) AllReadyH.nil)))
  · go_simp
    have hbn : Below w.heap.size w (W0.alloc (.cells #[] 96)) := HB0.new _
    refine hK.out _ _ (HS.out _ hbn) (fun hHeld => ?_)
    have hb13 : Below w.heap.size w (W0.alloc (.cells #[] 96)) := hbn
    have hoe : (W0.alloc (.cells #[] 96)).ownsRow w.heap.size 96 3 (.slice (some ⟨W0.heap.size, 0, none⟩) 0 0) 0 [] := own_empty_e _ _ _ _ HB0.size
    try simp only [World.size_alloc] at hoe
    clear hK K
    refine wpAnyH_ready (rs := [9, 16]) (by kernel_rfl) (by simp) (AllReadyH.cons rfl (fun K hK => ?_) (AllReadyH.cons rfl (fun K hK => ?_) AllReadyH.nil))
    · have q1 := HLK.out _ hb13
      go_simp
      clear q1
      refine hK.out _ _ hHeld (fun hHeld => ?_)
      clear hK K
      refine wpAnyH_ready (rs := [10, 16]) (by kernel_rfl) (by simp) (AllReadyH.cons rfl (fun K hK => ?_) (AllReadyH.cons rfl (fun K hK => ?_) AllReadyH.nil))
      · rw [if_pos (by rfl)]
        refine wp_appY (.tmp 10) (.tmp 15) rfl w.heap.size _ vv [] ls rfl hoe rfl (HRY.out _ hb13) (by simp; omega) hb13.size ?_
        intro v3 w3 ho3 hg3
        have hbn : Below w.heap.size w w3 := hb13.owngrown hoe hg3
        refine hK.out _ _ (HS.out _ hbn) (fun hHeld => ?_)
        have hb3 : Below w.heap.size w w3 := hbn
        clear hK K
        refine wpAnyH_ready (rs := [16]) (by kernel_rfl) (by simp) (AllReadyH.cons rfl (fun K hK => ?_) AllReadyH.nil)
        go_simp
        have hbn : Below w.heap.size w (w3.alloc (.cells #[.int .i64 i, .int .i64 q, .int .i64 v] 96)) := hb3.new _
        refine hK.out _ _ (HS.out _ hbn) (fun hHeld => ?_)
        have hb16 : Below w.heap.size w (w3.alloc (.cells #[.int .i64 i, .int .i64 q, .int .i64 v] 96)) := hbn
        have hry : RdY (w3.alloc (.cells #[.int .i64 i, .int .i64 q, .int .i64 v] 96)) (.slice (some ⟨w3.heap.size, 0, none⟩) 1 1) [⟨i, q, v⟩] := rdY_one w3 ⟨i, q, v⟩
        try simp only [World.size_alloc] at hry
        have ho2 := ho3.alloc (.cells #[.int .i64 i, .int .i64 q, .int .i64 v] 96)
        clear hK K
        refine wpAnyH_ready (rs := [17]) (by kernel_rfl) (by simp) (AllReadyH.cons rfl (fun K hK => ?_) AllReadyH.nil)
        rw [if_pos (by rfl)]
        refine wp_appY (.tmp 16) (.tmp 22) rfl w.heap.size v3 _ ([] ++ ls) [⟨i, q, v⟩] rfl ho2 rfl hry (by simp; omega) hb16.size ?_
        intro v4 w4 ho4 hg4
        have hbn : Below w.heap.size w w4 := hb16.owngrown ho2 hg4
        refine hK.out _ _ (HS.out _ hbn) (fun hHeld => ?_)
        have hb4 : Below w.heap.size w w4 := hbn
        rw [List.nil_append] at ho4
        clear hK K
        refine wpAnyH_ready (rs := [18]) (by kernel_rfl) (by simp) (AllReadyH.cons rfl (fun K hK => ?_) AllReadyH.nil)
        obtain ⟨w5, hrun5, hq5, hl5⟩ := HSET.out w4 v4 _ hb4 ho4
        go_simp
        refine hK.out _ _ (HSL.out _ _ hb4 hl5) (fun hHeld => ?_)
        clear hK K
        refine wpAnyH_done (by kernel_rfl) ?_ _
        go_wp2_with fail
        go_end0
        exact ⟨rfl, hq5, (Li.of_below hb4).trans hl5⟩
      · go_simp
        have hbn : Below w.heap.size w ((W0.alloc (.cells #[] 96)).alloc (.cells #[.int .i64 i, .int .i64 q, .int .i64 v] 96)) := hb13.new _
        refine hK.out _ _ (HS.out _ hbn) (fun hHeld => ?_)
        have hb15 : Below w.heap.size w ((W0.alloc (.cells #[] 96)).alloc (.cells #[.int .i64 i, .int .i64 q, .int .i64 v] 96)) := hbn
        have hry : RdY ((W0.alloc (.cells #[] 96)).alloc (.cells #[.int .i64 i, .int .i64 q, .int .i64 v] 96)) (.slice (some ⟨(W0.alloc (.cells #[] 96)).heap.size, 0, none⟩) 1 1) [⟨i, q, v⟩] := rdY_one (W0.alloc (.cells #[] 96)) ⟨i, q, v⟩
        try simp only [World.size_alloc] at hry
        have ho2 := hoe.alloc (.cells #[.int .i64 i, .int .i64 q, .int .i64 v] 96)
        clear hK K
        refine wpAnyH_ready (rs := [10]) (by kernel_rfl) (by simp) (AllReadyH.cons rfl (fun K hK => ?_) AllReadyH.nil)
        rw [if_pos (by rfl)]
        refine wp_appY (.tmp 10) (.tmp 15) rfl w.heap.size _ vv [] ls rfl ho2 rfl (HRY.out _ hb15) (by simp; omega) hb15.size ?_
        intro v3 w3 ho3 hg3
        have hbn : Below w.heap.size w w3 := hb15.owngrown ho2 hg3
        refine hK.out _ _ (HS.out _ hbn) (fun hHeld => ?_)
        have hb3 : Below w.heap.size w w3 := hbn
        have hry3 : RdY w3 _ [⟨i, q, v⟩] := hry.grown hg3 (by simp [Value.ownBlock])
        clear hK K
        refine wpAnyH_ready (rs := [17]) (by kernel_rfl) (by simp) (AllReadyH.cons rfl (fun K hK => ?_) AllReadyH.nil)
        rw [if_pos (by rfl)]
        refine wp_appY (.tmp 16) (.tmp 22) rfl w.heap.size v3 _ ([] ++ ls) [⟨i, q, v⟩] rfl ho3 rfl hry3 (by simp; omega) hb3.size ?_
        intro v4 w4 ho4 hg4
        have hbn : Below w.heap.size w w4 := hb3.owngrown ho3 hg4
        refine hK.out _ _ (HS.out _ hbn) (fun hHeld => ?_)
        have hb4 : Below w.heap.size w w4 := hbn
        rw [List.nil_append] at ho4
        clear hK K
        refine wpAnyH_ready (rs := [18]) (by kernel_rfl) (by simp) (AllReadyH.cons rfl (fun K hK => ?_) AllReadyH.nil)
        obtain ⟨w5, hrun5, hq5, hl5⟩ := HSET.out w4 v4 _ hb4 ho4
        go_simp
        refine hK.out _ _ (HSL.out _ _ hb4 hl5) (fun hHeld => ?_)
        clear hK K
        refine wpAnyH_done (by kernel_rfl) ?_ _
        go_wp2_with fail
        go_end0
        exact ⟨rfl, hq5, (Li.of_below hb4).trans hl5⟩
    · go_simp
      have hbn : Below w.heap.size w ((W0.alloc (.cells #[] 96)).alloc (.cells #[.int .i64 i, .int .i64 q, .int .i64 v] 96)) := hb13.new _
      refine hK.out _ _ (HS.out _ hbn) (fun hHeld => ?_)
      have hb14 : Below w.heap.size w ((W0.alloc (.cells #[] 96)).alloc (.cells #[.int .i64 i, .int .i64 q, .int .i64 v] 96)) := hbn
      have hry : RdY ((W0.alloc (.cells #[] 96)).alloc (.cells #[.int .i64 i, .int .i64 q, .int .i64 v] 96)) (.slice (some ⟨(W0.alloc (.cells #[] 96)).heap.size, 0, none⟩) 1 1) [⟨i, q, v⟩] := rdY_one (W0.alloc (.cells #[] 96)) ⟨i, q, v⟩
      try simp only [World.size_alloc] at hry
      have ho2 := hoe.alloc (.cells #[.int .i64 i, .int .i64 q, .int .i64 v] 96)
      clear hK K
      refine wpAnyH_ready (rs := [9]) (by kernel_rfl) (by simp) (AllReadyH.cons rfl (fun K hK => ?_) AllReadyH.nil)
      have q1 := HLK.out _ hb14
      go_simp
      clear q1
      refine hK.out _ _ hHeld (fun hHeld => ?_)
      clear hK K
      refine wpAnyH_ready (rs := [10]) (by kernel_rfl) (by simp) (AllReadyH.cons rfl (fun K hK => ?_) AllReadyH.nil)
      rw [if_pos (by rfl)]
      refine wp_appY (.tmp 10) (.tmp 15) rfl w.heap.size _ vv [] ls rfl ho2 rfl (HRY.out _ hb14) (by simp; omega) hb14.size ?_
      intro v3 w3 ho3 hg3
      have hbn : Below w.heap.size w w3 := hb14.owngrown ho2 hg3
      refine hK.out _ _ (HS.out _ hbn) (fun hHeld => ?_)
      have hb3 : Below w.heap.size w w3 := hbn
      have hry3 : RdY w3 _ [⟨i, q, v⟩] := hry.grown hg3 (by simp [Value.ownBlock])
      clear hK K
      refine wpAnyH_ready (rs := [17]) (by kernel_rfl) (by simp) (AllReadyH.cons rfl (fun K hK => ?_) AllReadyH.nil)
      rw [if_pos (by rfl)]
      refine wp_appY (.tmp 16) (.tmp 22) rfl w.heap.size v3 _ ([] ++ ls) [⟨i, q, v⟩] rfl ho3 rfl hry3 (by simp; omega) hb3.size ?_
      intro v4 w4 ho4 hg4
      have hbn : Below w.heap.size w w4 := hb3.owngrown ho3 hg4
      refine hK.out _ _ (HS.out _ hbn) (fun hHeld => ?_)
      have hb4 : Below w.heap.size w w4 := hbn
      rw [List.nil_append] at ho4
      clear hK K
      refine wpAnyH_ready (rs := [18]) (by kernel_rfl) (by simp) (AllReadyH.cons rfl (fun K hK => ?_) AllReadyH.nil)
      obtain ⟨w5, hrun5, hq5, hl5⟩ := HSET.out w4 v4 _ hb4 ho4
      go_simp
      refine hK.out _ _ (HSL.out _ _ hb4 hl5) (fun hHeld => ?_)
      clear hK K
      refine wpAnyH_done (by kernel_rfl) ?_ _
      go_wp2_with fail
      go_end0
      exact ⟨rfl, hq5, (Li.of_below hb4).trans hl5⟩
  · have q1 := HLK.out _ HB0
    go_simp
    clear q1
    refine hK.out _ _ hHeld (fun hHeld => ?_)
    clear hK K
    refine wpAnyH_ready (rs := [4, 16]) (by kernel_rfl) (by simp) (AllReadyH.cons rfl (fun K hK => ?_) (AllReadyH.cons rfl (fun K hK => ?_) AllReadyH.nil))
    · go_simp
      have hbn : Below w.heap.size w (W0.alloc (.cells #[] 96)) := HB0.new _
      refine hK.out _ _ (HS.out _ hbn) (fun hHeld => ?_)
      have hb14 : Below w.heap.size w (W0.alloc (.cells #[] 96)) := hbn
      have hoe : (W0.alloc (.cells #[] 96)).ownsRow w.heap.size 96 3 (.slice (some ⟨W0.heap.size, 0, none⟩) 0 0) 0 [] := own_empty_e _ _ _ _ HB0.size
      try simp only [World.size_alloc] at hoe
      clear hK K
      refine wpAnyH_ready (rs := [10, 16]) (by kernel_rfl) (by simp) (AllReadyH.cons rfl (fun K hK => ?_) (AllReadyH.cons rfl (fun K hK => ?_) AllReadyH.nil))
      · rw [if_pos (by rfl)]
        refine wp_appY (.tmp 10) (.tmp 15) rfl w.heap.size _ vv [] ls rfl hoe rfl (HRY.out _ hb14) (by simp; omega) hb14.size ?_
        intro v3 w3 ho3 hg3
        have hbn : Below w.heap.size w w3 := hb14.owngrown hoe hg3
        refine hK.out _ _ (HS.out _ hbn) (fun hHeld => ?_)
        have hb3 : Below w.heap.size w w3 := hbn
        clear hK K
        refine wpAnyH_ready (rs := [16]) (by kernel_rfl) (by simp) (AllReadyH.cons rfl (fun K hK => ?_) AllReadyH.nil)
        go_simp
        have hbn : Below w.heap.size w (w3.alloc (.cells #[.int .i64 i, .int .i64 q, .int .i64 v] 96)) := hb3.new _
        refine hK.out _ _ (HS.out _ hbn) (fun hHeld => ?_)
        have hb16 : Below w.heap.size w (w3.alloc (.cells #[.int .i64 i, .int .i64 q, .int .i64 v] 96)) := hbn
        have hry : RdY (w3.alloc (.cells #[.int .i64 i, .int .i64 q, .int .i64 v] 96)) (.slice (some ⟨w3.heap.size, 0, none⟩) 1 1) [⟨i, q, v⟩] := rdY_one w3 ⟨i, q, v⟩
        try simp only [World.size_alloc] at hry
        have ho2 := ho3.alloc (.cells #[.int .i64 i, .int .i64 q, .int .i64 v] 96)
        clear hK K
        refine wpAnyH_ready (rs := [17]) (by kernel_rfl) (by simp) (AllReadyH.cons rfl (fun K hK => ?_) AllReadyH.nil)
        rw [if_pos (by rfl)]
        refine wp_appY (.tmp 16) (.tmp 22) rfl w.heap.size v3 _ ([] ++ ls) [⟨i, q, v⟩] rfl ho2 rfl hry (by simp; omega) hb16.size ?_
        intro v4 w4 ho4 hg4
        have hbn : Below w.heap.size w w4 := hb16.owngrown ho2 hg4
        refine hK.out _ _ (HS.out _ hbn) (fun hHeld => ?_)
        have hb4 : Below w.heap.size w w4 := hbn
        rw [List.nil_append] at ho4
        clear hK K
        refine wpAnyH_ready (rs := [18]) (by kernel_rfl) (by simp) (AllReadyH.cons rfl (fun K hK => ?_) AllReadyH.nil)
        obtain ⟨w5, hrun5, hq5, hl5⟩ := HSET.out w4 v4 _ hb4 ho4
        go_simp
        refine hK.out _ _ (HSL.out _ _ hb4 hl5) (fun hHeld => ?_)
        clear hK K
        refine wpAnyH_done (by kernel_rfl) ?_ _
        go_wp2_with fail
        go_end0
        exact ⟨rfl, hq5, (Li.of_below hb4).trans hl5⟩
      · go_simp
        have hbn : Below w.heap.size w ((W0.alloc (.cells #[] 96)).alloc (.cells #[.int .i64 i, .int .i64 q, .int .i64 v] 96)) := hb14.new _
        refine hK.out _ _ (HS.out _ hbn) (fun hHeld => ?_)
        have hb15 : Below w.heap.size w ((W0.alloc (.cells #[] 96)).alloc (.cells #[.int .i64 i, .int .i64 q, .int .i64 v] 96)) := hbn
        have hry : RdY ((W0.alloc (.cells #[] 96)).alloc (.cells #[.int .i64 i, .int .i64 q, .int .i64 v] 96)) (.slice (some ⟨(W0.alloc (.cells #[] 96)).heap.size, 0, none⟩) 1 1) [⟨i, q, v⟩] := rdY_one (W0.alloc (.cells #[] 96)) ⟨i, q, v⟩
        try simp only [World.size_alloc] at hry
        have ho2 := hoe.alloc (.cells #[.int .i64 i, .int .i64 q, .int .i64 v] 96)
        clear hK K
        refine wpAnyH_ready (rs := [10]) (by kernel_rfl) (by simp) (AllReadyH.cons rfl (fun K hK => ?_) AllReadyH.nil)
        rw [if_pos (by rfl)]
        refine wp_appY (.tmp 10) (.tmp 15) rfl w.heap.size _ vv [] ls rfl ho2 rfl (HRY.out _ hb15) (by simp; omega) hb15.size ?_
        intro v3 w3 ho3 hg3
        have hbn : Below w.heap.size w w3 := hb15.owngrown ho2 hg3
        refine hK.out _ _ (HS.out _ hbn) (fun hHeld => ?_)
        have hb3 : Below w.heap.size w w3 := hbn
        have hry3 : RdY w3 _ [⟨i, q, v⟩] := hry.grown hg3 (by simp [Value.ownBlock])
        clear hK K
        refine wpAnyH_ready (rs := [17]) (by kernel_rfl) (by simp) (AllReadyH.cons rfl (fun K hK => ?_) AllReadyH.nil)
        rw [if_pos (by rfl)]
        refine wp_appY (.tmp 16) (.tmp 22) rfl w.heap.size v3 _ ([] ++ ls) [⟨i, q, v⟩] rfl ho3 rfl hry3 (by simp; omega) hb3.size ?_
        intro v4 w4 ho4 hg4
        have hbn : Below w.heap.size w w4 := hb3.owngrown ho3 hg4
        refine hK.out _ _ (HS.out _ hbn) (fun hHeld => ?_)
        have hb4 : Below w.heap.size w w4 := hbn
        rw [List.nil_append] at ho4
        clear hK K
        refine wpAnyH_ready (rs := [18]) (by kernel_rfl) (by simp) (AllReadyH.cons rfl (fun K hK => ?_) AllReadyH.nil)
        obtain ⟨w5, hrun5, hq5, hl5⟩ := HSET.out w4 v4 _ hb4 ho4
        go_simp
        refine hK.out _ _ (HSL.out _ _ hb4 hl5) (fun hHeld => ?_)
        clear hK K
        refine wpAnyH_done (by kernel_rfl) ?_ _
        go_wp2_with fail
        go_end0
        exact ⟨rfl, hq5, (Li.of_below hb4).trans hl5⟩
    · go_simp
      have hbn : Below w.heap.size w (W0.alloc (.cells #[.int .i64 i, .int .i64 q, .int .i64 v] 96)) := HB0.new _
      refine hK.out _ _ (HS.out _ hbn) (fun hHeld => ?_)
      have hb14 : Below w.heap.size w (W0.alloc (.cells #[.int .i64 i, .int .i64 q, .int .i64 v] 96)) := hbn
      have hry : RdY (W0.alloc (.cells #[.int .i64 i, .int .i64 q, .int .i64 v] 96)) (.slice (some ⟨W0.heap.size, 0, none⟩) 1 1) [⟨i, q, v⟩] := rdY_one W0 ⟨i, q, v⟩
      try simp only [World.size_alloc] at hry
      clear hK K
      refine wpAnyH_ready (rs := [4]) (by kernel_rfl) (by simp) (AllReadyH.cons rfl (fun K hK => ?_) AllReadyH.nil)
      go_simp
      have hbn : Below w.heap.size w ((W0.alloc (.cells #[.int .i64 i, .int .i64 q, .int .i64 v] 96)).alloc (.cells #[] 96)) := hb14.new _
      refine hK.out _ _ (HS.out _ hbn) (fun hHeld => ?_)
      have hb15 : Below w.heap.size w ((W0.alloc (.cells #[.int .i64 i, .int .i64 q, .int .i64 v] 96)).alloc (.cells #[] 96)) := hbn
      have hoe : ((W0.alloc (.cells #[.int .i64 i, .int .i64 q, .int .i64 v] 96)).alloc (.cells #[] 96)).ownsRow w.heap.size 96 3 (.slice (some ⟨(W0.alloc (.cells #[.int .i64 i, .int .i64 q, .int .i64 v] 96)).heap.size, 0, none⟩) 0 0) 0 [] := own_empty_e _ _ _ _ hb14.size
      try simp only [World.size_alloc] at hoe
      have hry2 : RdY ((W0.alloc (.cells #[.int .i64 i, .int .i64 q, .int .i64 v] 96)).alloc (.cells #[] 96)) _ [⟨i, q, v⟩] := hry.below ((Below.refl _ (W0.alloc (.cells #[.int .i64 i, .int .i64 q, .int .i64 v] 96))).new _)
      clear hK K
      refine wpAnyH_ready (rs := [10]) (by kernel_rfl) (by simp) (AllReadyH.cons rfl (fun K hK => ?_) AllReadyH.nil)
      rw [if_pos (by rfl)]
      refine wp_appY (.tmp 10) (.tmp 15) rfl w.heap.size _ vv [] ls rfl hoe rfl (HRY.out _ hb15) (by simp; omega) hb15.size ?_
      intro v3 w3 ho3 hg3
      have hbn : Below w.heap.size w w3 := hb15.owngrown hoe hg3
      refine hK.out _ _ (HS.out _ hbn) (fun hHeld => ?_)
      have hb3 : Below w.heap.size w w3 := hbn
      have hry3 : RdY w3 _ [⟨i, q, v⟩] := hry2.grown hg3 (by simp [Value.ownBlock])
      clear hK K
      refine wpAnyH_ready (rs := [17]) (by kernel_rfl) (by simp) (AllReadyH.cons rfl (fun K hK => ?_) AllReadyH.nil)
      rw [if_pos (by rfl)]
      refine wp_appY (.tmp 16) (.tmp 22) rfl w.heap.size v3 _ ([] ++ ls) [⟨i, q, v⟩] rfl ho3 rfl hry3 (by simp; omega) hb3.size ?_
      intro v4 w4 ho4 hg4
      have hbn : Below w.heap.size w w4 := hb3.owngrown ho3 hg4
      refine hK.out _ _ (HS.out _ hbn) (fun hHeld => ?_)
      have hb4 : Below w.heap.size w w4 := hbn
      rw [List.nil_append] at ho4
      clear hK K
      refine wpAnyH_ready (rs := [18]) (by kernel_rfl) (by simp) (AllReadyH.cons rfl (fun K hK => ?_) AllReadyH.nil)
      obtain ⟨w5, hrun5, hq5, hl5⟩ := HSET.out w4 v4 _ hb4 ho4
      go_simp
      refine hK.out _ _ (HSL.out _ _ hb4 hl5) (fun hHeld => ?_)
      clear hK K
      refine wpAnyH_done (by kernel_rfl) ?_ _
      go_wp2_with fail
      go_end0
      exact ⟨rfl, hq5, (Li.of_below hb4).trans hl5⟩
  · go_simp
    have hbn : Below w.heap.size w (W0.alloc (.cells #[.int .i64 i, .int .i64 q, .int .i64 v] 96)) := HB0.new _
    refine hK.out _ _ (HS.out _ hbn) (fun hHeld => ?_)
    have hb13 : Below w.heap.size w (W0.alloc (.cells #[.int .i64 i, .int .i64 q, .int .i64 v] 96)) := hbn
    have hry : RdY (W0.alloc (.cells #[.int .i64 i, .int .i64 q, .int .i64 v] 96)) (.slice (some ⟨W0.heap.size, 0, none⟩) 1 1) [⟨i, q, v⟩] := rdY_one W0 ⟨i, q, v⟩
    try simp only [World.size_alloc] at hry
    clear hK K
    refine wpAnyH_ready (rs := [4, 9]) (by kernel_rfl) (by simp) (AllReadyH.cons rfl (fun K hK => ?_) (AllReadyH.cons rfl (fun K hK => ?_) AllReadyH.nil))
    · go_simp
      have hbn : Below w.heap.size w ((W0.alloc (.cells #[.int .i64 i, .int .i64 q, .int .i64 v] 96)).alloc (.cells #[] 96)) := hb13.new _
      refine hK.out _ _ (HS.out _ hbn) (fun hHeld => ?_)
      have hb14 : Below w.heap.size w ((W0.alloc (.cells #[.int .i64 i, .int .i64 q, .int .i64 v] 96)).alloc (.cells #[] 96)) := hbn
      have hoe : ((W0.alloc (.cells #[.int .i64 i, .int .i64 q, .int .i64 v] 96)).alloc (.cells #[] 96)).ownsRow w.heap.size 96 3 (.slice (some ⟨(W0.alloc (.cells #[.int .i64 i, .int .i64 q, .int .i64 v] 96)).heap.size, 0, none⟩) 0 0) 0 [] := own_empty_e _ _ _ _ hb13.size
      try simp only [World.size_alloc] at hoe
      have hry2 : RdY ((W0.alloc (.cells #[.int .i64 i, .int .i64 q, .int .i64 v] 96)).alloc (.cells #[] 96)) _ [⟨i, q, v⟩] := hry.below ((Below.refl _ (W0.alloc (.cells #[.int .i64 i, .int .i64 q, .int .i64 v] 96))).new _)
      clear hK K
      refine wpAnyH_ready (rs := [9]) (by kernel_rfl) (by simp) (AllReadyH.cons rfl (fun K hK => ?_) AllReadyH.nil)
      have q1 := HLK.out _ hb14
      go_simp
      clear q1
      refine hK.out _ _ hHeld (fun hHeld => ?_)
      clear hK K
      refine wpAnyH_ready (rs := [10]) (by kernel_rfl) (by simp) (AllReadyH.cons rfl (fun K hK => ?_) AllReadyH.nil)
      rw [if_pos (by rfl)]
      refine wp_appY (.tmp 10) (.tmp 15) rfl w.heap.size _ vv [] ls rfl hoe rfl (HRY.out _ hb14) (by simp; omega) hb14.size ?_
      intro v3 w3 ho3 hg3
      have hbn : Below w.heap.size w w3 := hb14.owngrown hoe hg3
      refine hK.out _ _ (HS.out _ hbn) (fun hHeld => ?_)
      have hb3 : Below w.heap.size w w3 := hbn
      have hry3 : RdY w3 _ [⟨i, q, v⟩] := hry2.grown hg3 (by simp [Value.ownBlock])
      clear hK K
      refine wpAnyH_ready (rs := [17]) (by kernel_rfl) (by simp) (AllReadyH.cons rfl (fun K hK => ?_) AllReadyH.nil)
      rw [if_pos (by rfl)]
      refine wp_appY (.tmp 16) (.tmp 22) rfl w.heap.size v3 _ ([] ++ ls) [⟨i, q, v⟩] rfl ho3 rfl hry3 (by simp; omega) hb3.size ?_
      intro v4 w4 ho4 hg4
      have hbn : Below w.heap.size w w4 := hb3.owngrown ho3 hg4
      refine hK.out _ _ (HS.out _ hbn) (fun hHeld => ?_)
      have hb4 : Below w.heap.size w w4 := hbn
      rw [List.nil_append] at ho4
      clear hK K
      refine wpAnyH_ready (rs := [18]) (by kernel_rfl) (by simp) (AllReadyH.cons rfl (fun K hK => ?_) AllReadyH.nil)
      obtain ⟨w5, hrun5, hq5, hl5⟩ := HSET.out w4 v4 _ hb4 ho4
      go_simp
      refine hK.out _ _ (HSL.out _ _ hb4 hl5) (fun hHeld => ?_)
      clear hK K
      refine wpAnyH_done (by kernel_rfl) ?_ _
      go_wp2_with fail
      go_end0
      exact ⟨rfl, hq5, (Li.of_below hb4).trans hl5⟩
    · have q1 := HLK.out _ hb13
      go_simp
      clear q1
      refine hK.out _ _ hHeld (fun hHeld => ?_)
      clear hK K
      refine wpAnyH_ready (rs := [4]) (by kernel_rfl) (by simp) (AllReadyH.cons rfl (fun K hK => ?_) AllReadyH.nil)
      go_simp
      have hbn : Below w.heap.size w ((W0.alloc (.cells #[.int .i64 i, .int .i64 q, .int .i64 v] 96)).alloc (.cells #[] 96)) := hb13.new _
      refine hK.out _ _ (HS.out _ hbn) (fun hHeld => ?_)
      have hb15 : Below w.heap.size w ((W0.alloc (.cells #[.int .i64 i, .int .i64 q, .int .i64 v] 96)).alloc (.cells #[] 96)) := hbn
      have hoe : ((W0.alloc (.cells #[.int .i64 i, .int .i64 q, .int .i64 v] 96)).alloc (.cells #[] 96)).ownsRow w.heap.size 96 3 (.slice (some ⟨(W0.alloc (.cells #[.int .i64 i, .int .i64 q, .int .i64 v] 96)).heap.size, 0, none⟩) 0 0) 0 [] := own_empty_e _ _ _ _ hb13.size
      try simp only [World.size_alloc] at hoe
      have hry2 : RdY ((W0.alloc (.cells #[.int .i64 i, .int .i64 q, .int .i64 v] 96)).alloc (.cells #[] 96)) _ [⟨i, q, v⟩] := hry.below ((Below.refl _ (W0.alloc (.cells #[.int .i64 i, .int .i64 q, .int .i64 v] 96))).new _)
      clear hK K
      refine wpAnyH_ready (rs := [10]) (by kernel_rfl) (by simp) (AllReadyH.cons rfl (fun K hK => ?_) AllReadyH.nil)
      rw [if_pos (by rfl)]
      refine wp_appY (.tmp 10) (.tmp 15) rfl w.heap.size _ vv [] ls rfl hoe rfl (HRY.out _ hb15) (by simp; omega) hb15.size ?_
      intro v3 w3 ho3 hg3
      have hbn : Below w.heap.size w w3 := hb15.owngrown hoe hg3
      refine hK.out _ _ (HS.out _ hbn) (fun hHeld => ?_)
      have hb3 : Below w.heap.size w w3 := hbn
      have hry3 : RdY w3 _ [⟨i, q, v⟩] := hry2.grown hg3 (by simp [Value.ownBlock])
      clear hK K
      refine wpAnyH_ready (rs := [17]) (by kernel_rfl) (by simp) (AllReadyH.cons rfl (fun K hK => ?_) AllReadyH.nil)
      rw [if_pos (by rfl)]
      refine wp_appY (.tmp 16) (.tmp 22) rfl w.heap.size v3 _ ([] ++ ls) [⟨i, q, v⟩] rfl ho3 rfl hry3 (by simp; omega) hb3.size ?_
      intro v4 w4 ho4 hg4
      have hbn : Below w.heap.size w w4 := hb3.owngrown ho3 hg4
      refine hK.out _ _ (HS.out _ hbn) (fun hHeld => ?_)
      have hb4 : Below w.heap.size w w4 := hbn
      rw [List.nil_append] at ho4
      clear hK K
      refine wpAnyH_ready (rs := [18]) (by kernel_rfl) (by simp) (AllReadyH.cons rfl (fun K hK => ?_) AllReadyH.nil)
      obtain ⟨w5, hrun5, hq5, hl5⟩ := HSET.out w4 v4 _ hb4 ho4
      go_simp
      refine hK.out _ _ (HSL.out _ _ hb4 hl5) (fun hHeld => ?_)
      clear hK K
      refine wpAnyH_done (by kernel_rfl) ?_ _
      go_wp2_with fail
      go_end0
      exact ⟨rfl, hq5, (Li.of_below hb4).trans hl5⟩
end Go.Proofs.YtpbbbiifeihkaaaGreatDoor
