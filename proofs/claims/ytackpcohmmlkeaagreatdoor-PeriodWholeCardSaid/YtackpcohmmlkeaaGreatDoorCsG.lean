/- Joined: CsE, CsF, CsG. -/
import Derived.Test.YtackpcohmmlkeaaGreatDoorCsD
import Derived.Laws.AppendOwnNone
import Derived.StillTailTactics

/- CsE: Cloning layers, and finding one. -/
section
namespace Go.Proofs.YtackpcohmmlkeaaGreatDoor
open Go.RowKit
open Go.Maps (Keyed)
set_option linter.unusedVariables false

theorem one_lay (ls : List Lay) : ∀ u ∈ flY ls, u.oneCell' = true := by
  intro u hu
  simp only [flY, List.mem_flatMap] at hu
  obtain ⟨p, -, hp⟩ := hu
  simp only [Lay.cells, List.mem_cons, List.not_mem_nil, or_false] at hp
  rcases hp with rfl | rfl | rfl <;> rfl
theorem own_empty_y (w : World) (base : Nat) (e : TypeId) (size : Nat) (hb : base ≤ w.heap.size) : (w.alloc (.cells #[] e)).ownsRow base e size (.slice (some ⟨w.heap.size, 0, none⟩) 0 0) 0 [] :=
  ⟨by simp, Or.inr ⟨w.heap.size, 0, #[], rfl, hb, by show (w.heap.push _)[w.heap.size]? = _; simp, by omega, by simp [maxLen], by simp, by simp⟩⟩
def OwnY (w : World) (base : Nat) (v : Value) (ls : List Lay) : Prop := w.ownsRow base 139 3 v ls.length (flY ls)
theorem OwnY.rd {w : World} {base : Nat} {v : Value} {ls : List Lay} (h : OwnY w base v ls) : RdY w v ls := by
  obtain ⟨hl, h'⟩ := id h
  obtain ⟨a, cap, rfl, hr, h1, h2⟩ := rd_of_own h
  have hw := h.2
  refine ⟨a, cap, rfl, h1, h2, fun ha => ?_, hr, fun p hp => ?_⟩
  rotate_left
  · subst hp
    rcases hw with ⟨e, -⟩ | ⟨g, cp, cur, e, -, hg, -⟩
    · cases e
    · injection e with e1 e2; injection e1 with e1; subst e1
      exact ⟨cur, (0, 0), hg⟩
  subst ha
  rcases h' with ⟨e, -⟩ | ⟨g, cp, cur, e, -⟩
  · injection e
  · injection e with e1; cases e1
set_option maxHeartbeats 1000000 in
set_option maxRecDepth 100000 in
theorem cloneY_any (v : Value) (ls : List Lay) (w : World) (h : RdY w v ls) (hl : ls.length ≤ 1000) :
    Calls Tryz.prog 134 #[v] w fun e w' => ∃ v', e = .returned v' ∧ OwnY w' w.heap.size v' ls ∧ Below w.heap.size w w' := by
  obtain ⟨i0, hi, hiz, his, hib⟩ := info_parts info_lay
  obtain ⟨a, c, rfl, h2, h3, h4, h5⟩ := h
  cases a with
  | none =>
    have := h4 rfl
    subst this
    obtain rfl : ls = [] := List.length_eq_zero_iff.1 (by omega)
    go_enter Tryz.func134, Tryz.ntmps134
    have k0 := fun (w : World) => Lib.run_eql_slice_nil (P := Tryz.prog) w
    go_wp2
    go_ret
    exact ⟨_, rfl, World.ownsRow_nil _ _ _ _, Below.refl _ _⟩
  | some ad =>
    have HR := Lib.hid h5.1
    clear h5
    have k0 := fun (w : World) => Lib.run_eql_slice_nil (P := Tryz.prog) w 136 139 (some ad) ls.length c 0 0 Tryz.underlying136
    have hcs : ∀ j u, (flY ls)[j]? = some u → (w.alloc (.cells #[] 139)).cell? (ad.add j) = some u := rd_cells (HR.out.alloc _)
    have HCS := Lib.hid hcs
    clear hcs
    go_enter Tryz.func134, Tryz.ntmps134
    go_wp2_with (first
      | (at_builtin; refine wpList_append_own _ rfl (.tmp 5) (.tmp 6) 136 rfl w.heap.size 139 i0 (.agg #[.int .i64 0, .int .i64 0, .int .i64 0]) 3 24 Tryz.underlying136 hi hiz his hib rfl (by decide) _ 0 [] rfl (own_empty_y _ _ _ _ (Nat.le_refl _)) ad ls.length c (flY ls) rfl (flY_len ls) HCS.out (one_lay ls) (by unfold maxLen; omega) (by omega) (by simp) ?_; intro v2 w2 hown2 hg2 _))
    go_ret
    refine ⟨v2, rfl, ?_, ((Below.refl _ w).new _).owngrown (own_empty_y _ _ 139 3 (Nat.le_refl _)) hg2 (by simp)⟩
    unfold OwnY
    simpa using hown2
set_option maxHeartbeats 1000000 in
set_option maxRecDepth 100000 in
theorem charge1_any (i q v o : Int) (B : Nat) (w : World) (hB : w.cell? ⟨B, 5, none⟩ = some (.int .i64 o)) :
    Calls Tryz.prog 136 #[.agg #[.int .i64 i, .int .i64 q, .int .i64 v], .pointer (some ⟨B, 0, none⟩)] w fun e w' => e = .returned (.bool (i == o)) ∧ Below w.heap.size w w' := by
  have hBl : B < w.heap.size := cell_blk hB
  go_enter Tryz.func136, Tryz.ntmps136
  go_wp2
  go_ret
  exact ⟨rfl, (Below.refl _ w).new _⟩
set_option maxHeartbeats 1000000 in
set_option maxRecDepth 100000 in
theorem indexY_any (v : Value) (ls : List Lay) (o : Int) (B : Nat) (w : World) (h : RdY w v ls) (hl : ls.length ≤ 1000) (hB : w.cell? ⟨B, 5, none⟩ = some (.int .i64 o)) :
    Calls Tryz.prog 135 #[v, .func (.func 136) #[] #[.pointer (some ⟨B, 0, none⟩)]] w fun e w' =>
      ((∃ k : Nat, ∃ hk : k < ls.length, e = .returned (.int .i64 k) ∧ ls[k].id = o ∧ ∀ j (hj : j < k), ls[j].id ≠ o) ∨ (e = .returned (.int .i64 (-1)) ∧ ∀ x ∈ ls, x.id ≠ o)) ∧ Below w.heap.size w w' := by
  have hv := h
  obtain ⟨a, c, rfl, -⟩ := hv
  have HR : Aside (RdY w (.slice a ls.length c) ls) := h
  have H1 := Lib.hid (fun i q v W hB => charge1_any i q v o B W hB)
  clear h
  go_enter Tryz.func135, Tryz.ntmps135
  go_wp2
  go_loopg [8] ls.length (fun kx i wr => ∃ k : Nat, k ≤ ls.length ∧ i = .int .i64 k ∧ ls.length - k ≤ kx ∧ Hid (∀ j (hj : j < k) (h2 : j < ls.length), ls[j].id ≠ o) ∧ Below w.heap.size w wr)
  case atStart => exact ⟨0, by omega, rfl, by omega, fun j hj => absurd hj (by omega), Below.refl _ _⟩
  case round =>
    obtain ⟨k, hk, rfl, hkx, HN, hb⟩ := hrel
    by_cases hlt : k < ls.length
    · have hltz : (k : Int) < (ls.length : Int) := by omega
      obtain ⟨-, b, off, rfl, p0, p1, p2⟩ := (HR.out.below hb).at k hlt
      have hBr := (hb.cell (cell_blk hB)).trans hB
      obtain ⟨x, hx⟩ : ∃ x, x = ls[k] := ⟨_, rfl⟩
      rw [← hx] at p0 p1 p2
      have HX := Lib.hid hx
      obtain ⟨i, q, u⟩ := x
      simp only at p0 p1 p2
      have HC := Lib.hid (H1.out i q u wr hBr)
      clear hx
      by_cases he : i = o
      · subst he
        have heb : (i == i) = true := by simp
        rw [heb] at HC
        go_wp2_with (go_at_call 136; refine HC.out.mono ?_; rintro e w2 ⟨rfl, hb2⟩)
        (try simp only [Exit.inBlock, Exit.then])
        refine bodyPost_ret (results_tmp rfl _ _ _) rfl ?_
        exact ⟨.inl ⟨k, hlt, rfl, by rw [← HX.out], fun j hj => HN.out j hj (by omega)⟩, hb.step hb2⟩
      · have heb : (i == o) = false := by simpa using he
        rw [heb] at HC
        go_wp2_with (go_at_call 136; refine HC.out.mono ?_; rintro e w2 ⟨rfl, hb2⟩)
        go_roundg (ls.length - (k + 1))
        case measure => omega
        case rel =>
          refine ⟨k + 1, hlt, by first | rfl | go_num | (congr 1; omega), Nat.le_refl _, (show Hid _ from fun j hj h2 => ?_), hb.step hb2⟩
          by_cases hjk : j = k
          · subst hjk; rw [← HX.out]; exact he
          · exact HN.out j (by omega) h2
    · have hltz : ¬ (k : Int) < (ls.length : Int) := by omega
      go_wp2
      go_ret
      refine ⟨.inr ⟨rfl, fun x hx => ?_⟩, hb⟩
      obtain ⟨j, hj, rfl⟩ := List.getElem_of_mem hx
      exact HN.out j (by omega) hj
end Go.Proofs.YtackpcohmmlkeaaGreatDoor
end

/- CsF: The teller charges. -/
section
namespace Go.Proofs.YtackpcohmmlkeaaGreatDoor
open Go.RowKit
open Go.Maps (Keyed)
set_option linter.unusedVariables false

def chargeP : List Lay → Int → Int → Int × List Lay
  | [], _, p => (p, [])
  | x :: r, o, p => if x.id = o then (0, ⟨x.id, x.qty, x.val + p⟩ :: r) else ((chargeP r o p).1, x :: (chargeP r o p).2)
theorem chargeP_no (ls : List Lay) (o p : Int) (h : ∀ x ∈ ls, x.id ≠ o) : chargeP ls o p = (p, ls) := by
  induction ls with
  | nil => rfl
  | cons x r ih => rw [chargeP, if_neg (h x (by simp)), ih fun y hy => h y (by simp [hy])]
theorem chargeP_at (ls : List Lay) (o p : Int) : ∀ (k : Nat) (hk : k < ls.length), ls[k].id = o → (∀ j (hj : j < k), ls[j].id ≠ o) → chargeP ls o p = (0, ls.set k ⟨ls[k].id, ls[k].qty, ls[k].val + p⟩) := by
  induction ls with
  | nil => intro k hk; exact absurd hk (by simp)
  | cons x r ih =>
    intro k hk h1 h2
    cases k with
    | zero => rw [chargeP, if_pos (by simpa using h1)]; simp
    | succ k =>
      rw [chargeP, if_neg (by simpa using h2 0 (by omega)), ih k (by simpa using hk) (by simpa using h1) (fun j hj => by simpa using h2 (j + 1) (by omega))]
      simp
theorem updL_self {β : Type} (L : List UInt8 → β) (s : List UInt8) : updL L s (L s) = L := by
  funext x; unfold updL; split
  · rename_i h; rw [h]
  · rfl
theorem val_le_sum {ls : List Lay} (h : ∀ x ∈ ls, 1 ≤ x.qty ∧ x.qty ≤ 100000 ∧ 0 ≤ x.val) {k : Nat} (hk : k < ls.length) : ls[k].val ≤ sumV ls := by
  induction ls generalizing k with
  | nil => exact absurd hk (by simp)
  | cons x r ih =>
    rw [sumV_cons]
    have h0 := h x (by simp)
    have h1 := sumV_nn (fun y hy => h y (List.mem_cons_of_mem _ hy) : ∀ y ∈ r, _)
    cases k with
    | zero => simp only [List.getElem_cons_zero]; omega
    | succ k =>
      have := ih (fun y hy => h y (List.mem_cons_of_mem _ hy)) (k := k) (by simpa using hk)
      simp only [List.getElem_cons_succ]; omega
theorem setCell_tag (w : World) (g o : Nat) (v : Value) {cur : Array Value} {t : TypeId} {fz : Nat × Nat} (h : w.heap[g]? = some (.cells cur t fz)) : ∃ cur' fz', (w.setCell ⟨g, o, none⟩ v).heap[g]? = some (.cells cur' t fz') := by
  obtain ⟨hlt, hk⟩ := Array.getElem?_eq_some_iff.1 h
  show ∃ cur' fz', (w.heap.modify g _)[g]? = _
  rw [Array.getElem?_eq_getElem (by rw [Array.size_modify]; exact hlt), Array.getElem_modify_self, hk]
  exact ⟨_, _, rfl⟩
/-- A cell of a row of the call's own is written. -/
theorem RdY.put {w : World} {g k n c : Nat} {ls : List Lay} (h : RdY w (.slice (some ⟨g, 0, none⟩) n c) ls) (hk : k < ls.length) (v : Int) :
    RdY (w.setCell ⟨g, k * 3 + 2, none⟩ (.int .i64 v)) (.slice (some ⟨g, 0, none⟩) n c) (ls.set k ⟨ls[k].id, ls[k].qty, v⟩) := by
  obtain ⟨a', c', h1, h2, h3, h4, h5⟩ := h
  injection h1 with e1 e2 e3
  subst e1 e2 e3
  have hlen : (ls.set k ⟨ls[k].id, ls[k].qty, v⟩).length = ls.length := List.length_set
  refine ⟨_, _, by rw [hlen], by rw [hlen]; exact h2, h3, h4, fun j hj => ?_, fun p hp => ?_⟩
  rotate_left
  · cases hp
    obtain ⟨cur, fz, hg⟩ := h5.2 ⟨g, 0, none⟩ rfl
    obtain ⟨hlt, hk2⟩ := Array.getElem?_eq_some_iff.1 hg
    exact setCell_tag w g _ _ hg
  rw [flY_len, hlen] at hj
  obtain ⟨b, off, hb, hc⟩ := h5.1 j (by rw [flY_len]; exact hj)
  injection hb with hb; injection hb with p1 p2
  subst p1 p2
  refine ⟨g, 0, rfl, ?_⟩
  rw [Nat.zero_add] at hc ⊢
  have hd : j = j / 3 * 3 + j % 3 := by omega
  have hi : j / 3 < ls.length := by omega
  have hm : j % 3 < 3 := by omega
  have old : (flY ls).getD j undef = ls[j / 3].cells[j % 3]?.getD undef := by
    rw [List.getD_eq_getElem?_getD]
    conv => lhs; rw [hd]
    rw [flY_get ls (j / 3) hi (j % 3) hm]
  have new : (flY (ls.set k ⟨ls[k].id, ls[k].qty, v⟩)).getD j undef = ((ls.set k ⟨ls[k].id, ls[k].qty, v⟩)[j / 3]'(by rw [hlen]; exact hi)).cells[j % 3]?.getD undef := by
    rw [List.getD_eq_getElem?_getD]
    conv => lhs; rw [hd]
    rw [flY_get _ (j / 3) (by rw [hlen]; exact hi) (j % 3) hm]
  rw [new, List.getElem_set]
  by_cases e : j = k * 3 + 2
  · subst e
    rw [World.cell?_setCell_same' _ _ _ (by rw [hc]; rfl)]
    rw [if_pos (by omega), show (k * 3 + 2) % 3 = 2 by omega]
    rfl
  · rw [World.cell?_setCell_other _ _ _ _ (fun h => e (by have := congrArg Addr.off h; simp only at this; omega)), hc, old]
    by_cases e3 : k = j / 3
    · rw [if_pos e3]
      have : j % 3 = 0 ∨ j % 3 = 1 := by omega
      have e6 : ls[j / 3] = ls[k] := by simp only [e3]
      rw [e6]
      rcases this with e5 | e5 <;> rw [e5] <;> rfl
    · rw [if_neg e3]
set_option maxHeartbeats 4000000 in
set_option maxRecDepth 100000 in
theorem charge_any (T bl bm c : Nat) (L : List UInt8 → List Lay) (G : List UInt8 → Int) (s : ByteArray) (i kd q p o d : Int) (w : World) (h : TW w T bl bm c L G) (hs : s.size ≤ maxLen) (hc : c < 1000000) (hl : (L s.data.toList).length ≤ 1000)
    (hg : GoodY 20000000000000 (L s.data.toList)) (hp : 0 ≤ p ∧ p ≤ 1000000000000) :
    Calls Tryz.prog 93 #[.pointer (some ⟨T, 0, none⟩), .agg #[.int .i64 i, .string s, .int .i64 kd, .int .i64 q, .int .i64 p, .int .i64 o, .int .i64 d]] w fun e w' =>
      e = .returned (.int .i64 (chargeP (L s.data.toList) o p).1) ∧ TW w' T bl bm (c + 1) (updL L s.data.toList (chargeP (L s.data.toList) o p).2) G ∧ Li bl bm w w' := by
  have HW0 := Lib.hid h
  have hTl : T < w.heap.size := cell_blk h.t0
  clear h
  go_enter Tryz.func93, Tryz.ntmps93
  go_wp2
  refine wp_region_still_tail 7 (by kernel_rfl) (by kernel_rfl) ?_
  change wpStill _ _ (World.drew _) _ _ _
  generalize hW : World.drew _ = W
  have hb0 : Below w.heap.size w W := by rw [← hW]; exact ((Below.refl _ w).new _).drew
  have e0 : W.cell? ⟨w.heap.size, 1, none⟩ = some (.string s) := by rw [← hW]; simp
  have e1 : W.cell? ⟨w.heap.size, 4, none⟩ = some (.int .i64 p) := by rw [← hW]; simp
  have e2 : W.cell? ⟨w.heap.size, 5, none⟩ = some (.int .i64 o) := by rw [← hW]; simp
  have HWD := Lib.hid hW
  have hT := HW0.out.below hb0
  obtain ⟨v, hr, hlook⟩ := hT.looks s hs
  have look := hlook W (Below.refl _ _)
  have t0 := hT.t0
  clear hW hlook
  generalize w.heap.size = B at e0 e1 e2 hTl ⊢
  have hbW := hb0.size
  generalize hls : L s.data.toList = ls at hr hl hg
  have HLS := Lib.hid hls
  have HTW : Aside (TW W T bl bm c L G) := hT
  have HG := Lib.hid hg
  obtain ⟨a, cp, rfl, -⟩ := id hr
  have HC := Lib.hid (cloneY_any _ ls W hr hl)
  have hBW : B < W.heap.size := cell_blk e0
  clear hr hls hT hg
  simp only [List.take_succ_cons, List.take_zero, List.drop_succ_cons, List.drop_zero]
  still_step
  still_step
  still_step
  still_step
  still_step
  still_step
  still_step
  refine wpStill_nil ?_
  change wpList _ _ _ _ _ (World.drew _)
  rw [HWD.out]
  clear HWD
  go_wp2_with (go_at_call 134; refine HC.out.mono ?_; rintro e w2 ⟨v2, rfl, ho, hb2⟩)
  have g1 := (hb2.cell (cell_blk e1)).trans e1
  have g2 := (hb2.cell (cell_blk e2)).trans e2
  have g0 := (hb2.cell (cell_blk e0)).trans e0
  refine (indexY_any v2 ls o B w2 ho.rd hl g2).mono ?_
  rintro e w3 ⟨⟨k, hk, rfl, hid, hno⟩ | ⟨rfl, hno⟩, hb3⟩
  · have f1 := (hb3.cell (cell_blk g1)).trans g1
    have f0 := (hb3.cell (cell_blk g0)).trans g0
    obtain ⟨g, cap, rfl, hgW, hg3⟩ : ∃ g cap, v2 = .slice (some ⟨g, 0, none⟩) ls.length cap ∧ W.heap.size ≤ g ∧ ∀ o, w3.frozen? ⟨g, o, none⟩ = false := by
      rcases ho.2 with ⟨-, h0⟩ | ⟨g, cap, cur, e, h1, h2, -⟩
      · omega
      · refine ⟨g, cap, e, h1, fun o => ?_⟩
        have := (hb3.block g (Array.getElem?_eq_some_iff.1 h2).1).trans h2
        simp [World.frozen?, this]
    have hr3 := ho.rd.below hb3
    obtain ⟨-, b', off', hba, p0, p1, p2⟩ := hr3.at k hk
    injection hba with hba; injection hba with q1 q2
    subst q1 q2
    have hx := HG.out.1 ls[k] (List.getElem_mem hk)
    have hS := HG.out.2
    have hV : ls[k].val ≤ 20000000000000 := Int.le_trans (val_le_sum HG.out.1 hk) hS
    have HPUT := Lib.hid (fun v => hr3.put hk v)
    have HCH := Lib.hid (chargeP_at ls o p k hk hid hno)
    obtain ⟨x, hxk⟩ : ∃ x, x = ls[k] := ⟨_, rfl⟩
    rw [← hxk] at p2 hx hV HPUT HCH
    clear hxk p0 p1 hid hno hS
    obtain ⟨xi, xq, xv⟩ := x
    simp only [Nat.zero_add] at p2 hx hV HPUT HCH
    have pf := hg3 (k * 3 + 2)
    have hkz : (k : Int) < (ls.length : Int) := by omega
    have hk0 : ¬ ((k : Int) < 0) := by omega
    have hgl : g < w3.heap.size := cell_blk p2
    have hb13 : Below W.heap.size W w3 := hb2.step hb3
    have E0 := Lib.hid e0
    clear hg3 hr3 hb2 hb3 ho g0 g1 g2 e0 e1 e2 HC t0 look
    go_wp2_with fail
    have mixed : Tryz.prog.follows .mixedOrders = true := by kernel_rfl
    go_big_region_o
    have hb4 : Below W.heap.size W (w3.setCell ⟨g, k * 3 + 2, none⟩ (.int .i64 (xv + p))).drew := (hb13.setCell (p := ⟨g, k * 3 + 2, none⟩) hgW _).drew
    have hr4 : RdY (w3.setCell ⟨g, k * 3 + 2, none⟩ (.int .i64 (xv + p))).drew (.slice (some ⟨g, 0, none⟩) ls.length cap) (ls.set k ⟨xi, xq, xv + p⟩) := (HPUT.out (xv + p)).below ((Below.refl _ _).drew)
    clear HPUT hb13 f0 f1 pf p2 hgl
    generalize (w3.setCell ⟨g, k * 3 + 2, none⟩ (.int .i64 (xv + p))).drew = w4 at hb4 hr4 ⊢
    have hb5 : Below W.heap.size W w4.drew := hb4.drew
    have hr5 : RdY w4.drew (.slice (some ⟨g, 0, none⟩) ls.length cap) (ls.set k ⟨xi, xq, xv + p⟩) := hr4.below (Below.refl _ w4).drew
    have hT5 := HTW.out.below hb5
    obtain ⟨w5, hrun, htw, hli⟩ := hT5.set s hs (by unfold maxLen; omega) _ _ hr5
    have f0 : w4.drew.cell? ⟨B, 1, none⟩ = some (.string s) := (hb5.cell hBW).trans E0.out
    have t0 : w4.drew.cell? ⟨T, 0, none⟩ = some (.map (some bl)) := hT5.t0
    have f04 : w4.cell? ⟨B, 1, none⟩ = some (.string s) := f0
    have t04 : w4.cell? ⟨T, 0, none⟩ = some (.map (some bl)) := t0
    have HT6 := Lib.hid htw
    have HL6 := Lib.hid hli
    have HB5 := Lib.hid hb5
    clear htw hli hb5 hT5 hr5 hr4 hb4
    go_wp2_with fail
    go_big_region_o
    clear mixed
    go_wp2
    go_ret
    rw [HLS.out, HCH.out]
    exact ⟨rfl, HT6.out, (Li.of_below hb0).trans ((Li.of_below HB5.out).trans HL6.out)⟩
  · have f1 := (hb3.cell (cell_blk g1)).trans g1
    have HCH := Lib.hid (chargeP_no ls o p hno)
    go_wp2
    go_ret
    rw [HLS.out, HCH.out]
    refine ⟨rfl, ?_, (Li.of_below hb0).trans ((Li.of_below hb2).trans (Li.of_below hb3))⟩
    rw [← HLS.out, updL_self]
    exact ((HTW.out.below hb2).below hb3).mono (by omega)
end Go.Proofs.YtackpcohmmlkeaaGreatDoor
end

/- CsG: The teller tells what an event comes to: an Out. -/
section
namespace Go.Proofs.YtackpcohmmlkeaaGreatDoor
open Go.RowKit
open Go.Maps (Keyed)
set_option linter.unusedVariables false

theorem heap_setc (w : World) (X o k : Nat) (v : Value) (h : k ≠ X) : (w.setCell ⟨X, o, none⟩ v).heap[k]? = w.heap[k]? := Below.heap_setCell w ⟨X, o, none⟩ v k h
theorem gb_set (w : World) (X o : Nat) (v : Value) : w.grownBy (w.setCell ⟨X, o, none⟩ v) (some X) := ⟨rfl, rfl, rfl, by simp, fun k _ hk => heap_setc w X o k v (fun e => hk (by rw [e]))⟩
theorem gb_trans {a b c : World} {X : Nat} (h : a.grownBy b (some X)) (k : b.grownBy c (some X)) : a.grownBy c (some X) :=
  ⟨k.os.trans h.os, k.tape.trans h.tape, k.output.trans h.output, Nat.le_trans h.size k.size, fun i hi hn => (k.block i (Nat.lt_of_lt_of_le hi h.size) hn).trans (h.block i hi hn)⟩
theorem RdY.turn {w w' : World} {v : Value} {ls : List Lay} (h : RdY w v ls) {X : Nat} (hg : w.grownBy w' (some X)) {cur : Array Value} {t : TypeId} {fz : Nat × Nat} (hX : w.heap[X]? = some (.cells cur t fz)) (ht : t ≠ 139) : RdY w' v ls := by
  obtain ⟨a, c, e1, e2, e3, e4, e5, e6⟩ := h
  have far : ∀ p, a = some p → p.block < w.heap.size ∧ p.block ≠ X := fun p hp => by
    obtain ⟨cu, f, hc⟩ := e6 p hp
    refine ⟨(Array.getElem?_eq_some_iff.1 hc).1, fun e => ?_⟩
    rw [e, hX] at hc
    injection hc with hc; injection hc with _ h2; exact ht h2
  have same : ∀ p, a = some p → w'.heap[p.block]? = w.heap[p.block]? := fun p hp => hg.block _ (far p hp).1 (fun e => (far p hp).2 (by cases e; rfl))
  refine ⟨a, c, e1, e2, e3, e4, fun j hj => ?_, fun p hp => ?_⟩
  · obtain ⟨b, off, hb, hc⟩ := e5 j hj
    refine ⟨b, off, hb, ?_⟩
    rw [← hc]
    exact World.cell?_of_block (show w'.heap[b]? = w.heap[b]? from same _ hb)
  · obtain ⟨cu, f, hc⟩ := e6 p hp
    exact ⟨cu, f, (same _ hp).trans hc⟩
theorem TW.turn {w w' : World} {T bl bm c : Nat} {L : List UInt8 → List Lay} {G : List UInt8 → Int} (h : TW w T bl bm c L G) {X : Nat} (hg : w.grownBy w' (some X)) {cur : Array Value} {t : TypeId} {fz : Nat × Nat} (hX : w.heap[X]? = some (.cells cur t fz)) (ht : t ≠ 139) (hT : X ≠ T) : TW w' T bl bm c L G := by
  obtain ⟨t0, t1, ne, ⟨ks, f, m1, m2, m3⟩, ⟨km, g, n1, n2, n3⟩⟩ := h
  have hbl : some bl ≠ some X := fun e => mv_nocells m1 cur t fz (by cases e; exact hX)
  have hbm : some bm ≠ some X := fun e => mv_nocells n1 cur t fz (by cases e; exact hX)
  have same : w'.heap[T]? = w.heap[T]? := hg.block T (cell_blk t0) (fun e => hT (by cases e; rfl))
  refine ⟨?_, ?_, ne, ⟨ks, f, m1.kept hg hbl, m2, fun l => (m3 l).turn hg hX ht⟩, ⟨km, g, MV.kept n1 hg hbm, n2, n3⟩⟩
  · rw [← t0]; exact World.cell?_of_block same
  · rw [← t1]; exact World.cell?_of_block same
theorem Li.turn {bl bm : Nat} {w0 w w' : World} (h : Li bl bm w0 w) {X : Nat} (hg : w.grownBy w' (some X)) (hX : w0.heap.size ≤ X) : Li bl bm w0 w' :=
  ⟨hg.os.trans h.os, hg.tape.trans h.tape, hg.output.trans h.output, Nat.le_trans h.size hg.size, fun k hk h1 h2 => (hg.block k (Nat.lt_of_lt_of_le hk h.size) (fun e => by cases e; omega)).trans (h.block k hk h1 h2)⟩
theorem TW.not_cells {w : World} {T bl bm c : Nat} {L : List UInt8 → List Lay} {G : List UInt8 → Int} (h : TW w T bl bm c L G) {X : Nat} {cur : Array Value} {t : TypeId} {fz : Nat × Nat} (hX : w.heap[X]? = some (.cells cur t fz)) : X ≠ bl ∧ X ≠ bm := by
  obtain ⟨t0, t1, ne, ⟨ks, f, m1, m2, m3⟩, ⟨km, g, n1, n2, n3⟩⟩ := h
  exact ⟨fun e => mv_nocells m1 cur t fz (by rw [← e]; exact hX), fun e => mv_nocells n1 cur t fz (by rw [← e]; exact hX)⟩
theorem Li.heap {bl bm : Nat} {w w' : World} (h : Li bl bm w w') {k : Nat} {o : Obj} (hk : w.heap[k]? = some o) (h1 : k ≠ bl) (h2 : k ≠ bm) : w'.heap[k]? = some o :=
  (h.block k (Array.getElem?_eq_some_iff.1 hk).1 h1 h2).trans hk

/-- A line. -/
structure Ln where
  id : Int
  value : Int
  short : Int
  late : Int
  gain : Bool
abbrev Ln.agg (x : Ln) : Value := .agg #[.int .i64 x.id, .int .i64 x.value, .int .i64 x.short, .int .i64 x.late, .bool x.gain]
abbrev Ln.ob (x : Ln) : Obj := .cells #[.int .i64 x.id, .int .i64 x.value, .int .i64 x.short, .int .i64 x.late, .bool x.gain] 103
theorem ln_cells {W : World} {b : Nat} {i v s l : Int} {g : Bool} (h : W.heap[b]? = some (.cells #[.int .i64 i, .int .i64 v, .int .i64 s, .int .i64 l, .bool g] 103 (0, 0))) :
    W.cell? ⟨b, 0, none⟩ = some (.int .i64 i) ∧ W.cell? ⟨b, 1, none⟩ = some (.int .i64 v) ∧ W.cell? ⟨b, 2, none⟩ = some (.int .i64 s) ∧ W.cell? ⟨b, 3, none⟩ = some (.int .i64 l) ∧ W.cell? ⟨b, 4, none⟩ = some (.bool g) ∧
    W.frozen? ⟨b, 0, none⟩ = false ∧ W.frozen? ⟨b, 1, none⟩ = false ∧ W.frozen? ⟨b, 2, none⟩ = false ∧ W.frozen? ⟨b, 3, none⟩ = false ∧ W.frozen? ⟨b, 4, none⟩ = false := by
  refine ⟨?_, ?_, ?_, ?_, ?_, ?_, ?_, ?_, ?_, ?_⟩ <;> simp [World.cell?, World.frozen?, h]
set_option maxHeartbeats 4000000 in
set_option maxRecDepth 100000 in
theorem one_out (T bl bm c : Nat) (L : List UInt8 → List Lay) (G : List UInt8 → Int) (s : ByteArray) (i q p o d : Int) (w : World) (h : TW w T bl bm c L G) (hs : s.size ≤ maxLen) (hc : c < 1000000) (hl : (L s.data.toList).length ≤ 1000)
    (hg : GoodY 20000000000000 (L s.data.toList)) (hq : 0 ≤ q ∧ q ≤ 1000000) :
    Calls Tryz.prog 59 #[.pointer (some ⟨T, 0, none⟩), .agg #[.int .i64 i, .string s, .int .i64 3, .int .i64 q, .int .i64 p, .int .i64 o, .int .i64 d]] w fun e w' =>
      e = .returned (Ln.agg ⟨i, (takeP (L s.data.toList) q).1, (takeP (L s.data.toList) q).2.1, 0, false⟩) ∧ TW w' T bl bm (c + 1) (updL L s.data.toList (takeP (L s.data.toList) q).2.2) G ∧ Li bl bm w w' := by
  have hTl : T < w.heap.size := cell_blk h.t0
  obtain ⟨W0, hW0⟩ : ∃ W0, W0 = ((w.alloc (Evt.ob ⟨i, s, 3, q, p, o, d⟩)).alloc (Ln.ob ⟨0, 0, 0, 0, false⟩)).alloc (Ln.ob ⟨i, 0, 0, 0, false⟩) := ⟨_, rfl⟩
  have hb0 : Below w.heap.size w W0 := by rw [hW0]; exact (((Below.refl _ w).new _).new _).new _
  have x1 : W0.heap[w.heap.size + 1]? = some (Ln.ob ⟨0, 0, 0, 0, false⟩) := by
    rw [hW0]
    have := World.alloc_heap_new (w.alloc (Evt.ob ⟨i, s, 3, q, p, o, d⟩)) (Ln.ob ⟨0, 0, 0, 0, false⟩)
    rw [World.size_alloc] at this
    exact (Below.heap_alloc _ _ _ (by simp)).trans this
  have x2 : W0.heap[w.heap.size + 2]? = some (Ln.ob ⟨i, 0, 0, 0, false⟩) := by
    rw [hW0]
    have := World.alloc_heap_new ((w.alloc (Evt.ob ⟨i, s, 3, q, p, o, d⟩)).alloc (Ln.ob ⟨0, 0, 0, 0, false⟩)) (Ln.ob ⟨i, 0, 0, 0, false⟩)
    rw [World.size_alloc, World.size_alloc] at this
    exact this
  have x0 : W0.heap[w.heap.size]? = some (Evt.ob ⟨i, s, 3, q, p, o, d⟩) := by
    rw [hW0]
    exact (Below.heap_alloc _ _ _ (by simp; omega)).trans ((Below.heap_alloc _ _ _ (by simp)).trans (World.alloc_heap_new w _))
  have c1 : W0.cell? ⟨w.heap.size, 1, none⟩ = some (.string s) := by simp [World.cell?, x0]
  have c3 : W0.cell? ⟨w.heap.size, 3, none⟩ = some (.int .i64 q) := by simp [World.cell?, x0]
  have hT0 := h.below hb0
  have n1 := hT0.not_cells x1
  have n2 := hT0.not_cells x2
  have HTK := Lib.hid (take_any T bl bm c L G s q W0 hT0 hs hc (by omega) hg hl)
  obtain ⟨tv, htv⟩ : ∃ tv, tv = (takeP (L s.data.toList) q).1 := ⟨_, rfl⟩
  obtain ⟨tm, htm⟩ : ∃ tm, tm = (takeP (L s.data.toList) q).2.1 := ⟨_, rfl⟩
  obtain ⟨tl, htl⟩ : ∃ tl, tl = (takeP (L s.data.toList) q).2.2 := ⟨_, rfl⟩
  rw [← htv, ← htm, ← htl] at HTK ⊢
  have HX1 := Lib.hid x1
  have HX2 := Lib.hid x2
  clear h hT0 x0 x1 x2 htv htm htl hg hl
  go_enter Tryz.func59, Tryz.ntmps59
  go_upto_region 11 with fail
  simp only [Evt.ob, Ln.ob] at hW0
  simp only [Nat.add_assoc, Nat.reduceAdd]
  rw [← hW0]
  clear hW0
  have HL0 : Li bl bm w W0 := Li.of_below hb0
  obtain ⟨B, hBe⟩ : ∃ B, B = w.heap.size := ⟨_, rfl⟩
  rw [← hBe] at n1 n2 c1 c3 HX1 HX2 hTl ⊢
  have hBw : w.heap.size ≤ B := by omega
  clear hBe hb0
  go_wp2_with (go_at_call 94; refine HTK.out.mono ?_; rintro e w4 ⟨rfl, htw, hli⟩; have y1 := hli.heap HX1.out n1.1 n1.2; have y2 := hli.heap HX2.out n2.1 n2.2; obtain ⟨k0, k1, k2, k3, k4, f0, f1, f2, f3, f4⟩ := ln_cells y2; obtain ⟨j0, j1, j2, j3, j4, g0, g1, g2, g3, g4⟩ := ln_cells y1)
  have hgX : w4.grownBy ((w4.setCell ⟨B + 2, 1, none⟩ (.int .i64 tv)).setCell ⟨B + 2, 2, none⟩ (.int .i64 tm)) (some (B + 2)) := gb_trans (gb_set _ _ _ _) (gb_set _ _ _ _)
  have hTX := htw.turn hgX y2 (by decide) (by omega)
  have yX := (hgX.block (B + 1) (Array.getElem?_eq_some_iff.1 y1).1 (by simp)).trans y1
  have hLX := (HL0.trans hli).turn hgX (by omega)
  have hgR := gb_trans (gb_trans (gb_trans (gb_trans (gb_set ((w4.setCell ⟨B + 2, 1, none⟩ (.int .i64 tv)).setCell ⟨B + 2, 2, none⟩ (.int .i64 tm)) (B + 1) 0 (.int .i64 i)) (gb_set _ _ 1 (.int .i64 tv))) (gb_set _ _ 2 (.int .i64 tm))) (gb_set _ _ 3 (.int .i64 0))) (gb_set _ _ 4 (.bool false))
  refine bodyPost_ret (v := Ln.agg ⟨i, tv, tm, 0, false⟩) ?res rfl ⟨rfl, hTX.turn hgR yX (by decide) (by omega), hLX.turn hgR (by omega)⟩
  case res => simp [results, Tryz.results59, go_sem, j0, j1, j2, j3, j4]
end Go.Proofs.YtackpcohmmlkeaaGreatDoor
end
