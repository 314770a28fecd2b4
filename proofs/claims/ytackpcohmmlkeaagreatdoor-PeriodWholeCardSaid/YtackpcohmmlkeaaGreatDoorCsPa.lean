/- Joined: CsN, CsPa. -/
import Derived.Test.YtackpcohmmlkeaaGreatDoorCsL
import Derived.Test.YtackpcohmmlkeaaGreatDoorStX
import Derived.Test.YtackpcohmmlkeaaGreatDoorEvR
import Derived.Deep.LoopGhost

/- CsN: cost.Run: what events come to, in their order; what is left of each item. -/
section
namespace Go.Proofs.YtackpcohmmlkeaaGreatDoor
open Go.RowKit
open Go.Maps (Keyed)
set_option linter.unusedVariables false

def Ln.cells (x : Ln) : List Value := [.int .i64 x.id, .int .i64 x.value, .int .i64 x.short, .int .i64 x.late, .bool x.gain]
def flN (ls : List Ln) : List Value := ls.flatMap Ln.cells
theorem flN_snoc (ls : List Ln) (x : Ln) : flN (ls ++ [x]) = flN ls ++ x.cells := by simp [flN]
theorem one_ln (x : Ln) : ∀ u ∈ x.cells, u.oneCell' = true := by
  intro u hu
  simp only [Ln.cells, List.mem_cons, List.not_mem_nil, or_false] at hu
  rcases hu with rfl | rfl | rfl | rfl | rfl <;> rfl
theorem new_cells (w : World) (x : Ln) {j : Nat} {u : Value} (h : x.cells[j]? = some u) : (w.alloc (.cells #[.int .i64 x.id, .int .i64 x.value, .int .i64 x.short, .int .i64 x.late, .bool x.gain] 103)).cell? ((⟨w.heap.size, 0, none⟩ : Addr).add j) = some u := by
  have e0 : (⟨w.heap.size, 0, none⟩ : Addr).add j = ⟨w.heap.size, j, none⟩ := by simp [Addr.add]; omega
  rw [e0]
  simp only [World.cell?, World.alloc_heap_new]
  simpa [Ln.cells] using h
theorem info_ln : (Tryz.prog.info? 103).map (fun i => (i.zero, i.size, i.bytes)) = some (some (.agg #[.int .i64 0, .int .i64 0, .int .i64 0, .int .i64 0, .bool false]), 5, 40) := by kernel_rfl
theorem r_cells {W : World} {R : Nat} {va m : Value} (h : W.heap[R]? = some (.cells #[va, m] 70 (0, 0))) : W.cell? ⟨R, 0, none⟩ = some va ∧ W.cell? ⟨R, 1, none⟩ = some m ∧ W.frozen? ⟨R, 0, none⟩ = false ∧ W.frozen? ⟨R, 1, none⟩ = false := by
  refine ⟨?_, ?_, ?_, ?_⟩ <;> simp [World.cell?, World.frozen?, h]
theorem TW.no_bl {w : World} {T bl bm c : Nat} {L : List UInt8 → List Lay} {G : List UInt8 → Int} (h : TW w T bl bm c L G) (cur : Array Value) (t : TypeId) (fz : Nat × Nat) : w.heap[bl]? ≠ some (.cells cur t fz) := by
  obtain ⟨t0, t1, ne, ⟨ks, f, m1, m2, m3⟩, -⟩ := h
  exact mv_nocells m1 cur t fz
theorem TW.no_bm {w : World} {T bl bm c : Nat} {L : List UInt8 → List Lay} {G : List UInt8 → Int} (h : TW w T bl bm c L G) (cur : Array Value) (t : TypeId) (fz : Nat × Nat) : w.heap[bm]? ≠ some (.cells cur t fz) := by
  obtain ⟨t0, t1, ne, -, ⟨km, g, n1, n2, n3⟩⟩ := h
  exact mv_nocells n1 cur t fz
theorem own_li {w w' : World} {bl bm base e size n : Nat} {v : Value} {xs : List Value} (h : w.ownsRow base e size v n xs) (hl : Li bl bm w w') (h1 : ∀ cur t fz, w.heap[bl]? ≠ some (.cells cur t fz)) (h2 : ∀ cur t fz, w.heap[bm]? ≠ some (.cells cur t fz)) : w'.ownsRow base e size v n xs := by
  refine ⟨h.1, ?_⟩
  rcases h.2 with h | ⟨g, cap, cur, hv, hb, hg, r⟩
  · exact .inl h
  · exact .inr ⟨g, cap, cur, hv, hb, hl.heap hg (fun e => h1 cur _ _ (by rw [← e]; exact hg)) (fun e => h2 cur _ _ (by rw [← e]; exact hg)), r⟩
theorem kb_li {B lo hi bl bm : Nat} {a w w' : World} (h : KB B lo hi a w) (hl : Li bl bm w w') (h1 : B ≤ bl ∧ bl < lo) (h2 : B ≤ bm ∧ bm < lo) (hi' : hi ≤ w.heap.size) (hB : B ≤ w.heap.size) : KB B lo hi a w' :=
  h.trans ⟨hl.below (Below.refl _ _) h1.1 h2.1 hB, fun k q1 q2 => hl.block k (by omega) (by omega) (by omega)⟩
theorem app_step {B lo hi R T bl bm c base n : Nat} {st : Stk} {ln : Ln} {va : Value} {xs : List Value} {w2 w6 w7 : World} (htw : TW w6 T bl bm c st.lay st.last) (y6 : w6.heap[R]? = some (.cells #[va, .map none] 70 (0, 0)))
    (ho : w6.ownsRow base 103 5 va n xs) (hg : (w6.alloc (.cells #[.int .i64 ln.id, .int .i64 ln.value, .int .i64 ln.short, .int .i64 ln.late, .bool ln.gain] 103)).grownBy w7 va.ownBlock) (hT : T < base) (hb : hi ≤ base) (kb : KB B lo hi w2 w6) (hs : B ≤ hi ∧ hi ≤ w6.heap.size) :
    w7.heap[R]? = some (.cells #[va, .map none] 70 (0, 0)) ∧ TW w7 T bl bm c st.lay st.last ∧ KB B lo hi w2 w7 := by
  have ha : Below w6.heap.size w6 (w6.alloc (.cells #[.int .i64 ln.id, .int .i64 ln.value, .int .i64 ln.short, .int .i64 ln.late, .bool ln.gain] 103)) := (Below.refl _ _).new _
  have hta := htw.below ha
  have ya := (ha.block R (Array.getElem?_eq_some_iff.1 y6).1).trans y6
  have kba := kb.step (by omega) hs.2 ha
  have hsz : w6.heap.size ≤ (w6.alloc (.cells #[.int .i64 ln.id, .int .i64 ln.value, .int .i64 ln.short, .int .i64 ln.late, .bool ln.gain] 103)).heap.size := ha.size
  rcases ho.2 with ⟨rfl, -⟩ | ⟨g, cap, cur, rfl, hbg, hgc, -⟩
  · have hg' : (w6.alloc (.cells #[.int .i64 ln.id, .int .i64 ln.value, .int .i64 ln.short, .int .i64 ln.late, .bool ln.gain] 103)).grownBy w7 none := hg
    have hbb : Below (w6.alloc (.cells #[.int .i64 ln.id, .int .i64 ln.value, .int .i64 ln.short, .int .i64 ln.late, .bool ln.gain] 103)).heap.size (w6.alloc (.cells #[.int .i64 ln.id, .int .i64 ln.value, .int .i64 ln.short, .int .i64 ln.late, .bool ln.gain] 103)) w7 := ⟨hg'.os, hg'.tape, hg'.output, hg'.size, fun k hk => hg'.block k hk (by simp)⟩
    exact ⟨(hbb.block R (Array.getElem?_eq_some_iff.1 ya).1).trans ya, hta.below hbb, kba.step (by omega) (by omega) hbb⟩
  · have hg' : (w6.alloc (.cells #[.int .i64 ln.id, .int .i64 ln.value, .int .i64 ln.short, .int .i64 ln.late, .bool ln.gain] 103)).grownBy w7 (some g) := hg
    have hga := (ha.block g (Array.getElem?_eq_some_iff.1 hgc).1).trans hgc
    have hRg : R ≠ g := fun e => by rw [e, hgc] at y6; injection y6 with y6; injection y6 with _ y; cases y
    exact ⟨(hg'.block R (Array.getElem?_eq_some_iff.1 ya).1 (fun e => hRg (by cases e; rfl))).trans ya, hta.turn hg' hga (by decide) (by omega), kba.grown hg' (by omega) (by omega) (fun k e => by cases e; omega)⟩
theorem ins_length {α : Type} (le : α → α → Bool) (x : α) (l : List α) : (Stb.ins le x l).length = l.length + 1 := by
  induction l with
  | nil => rfl
  | cons y l ih => rw [Stb.ins]; split <;> simp [ih]
theorem isort_length {α : Type} (le : α → α → Bool) (l : List α) : (Stb.isort le l).length = l.length := by
  induction l with
  | nil => rfl
  | cons x l ih => rw [Stb.isort, ins_length, ih]; rfl
/-- Between two rounds of cost.Run. -/
def RI (base B lo hi R T bl bm c : Nat) (lns : List Ln) (st : Stk) (w2 W : World) : Prop :=
  TW W T bl bm c st.lay st.last ∧ (∃ va, W.heap[R]? = some (.cells #[va, .map none] 70 (0, 0)) ∧ W.ownsRow base 103 5 va lns.length (flN lns)) ∧ KB B lo hi w2 W
theorem RI.below {base B lo hi R T bl bm c : Nat} {lns : List Ln} {st : Stk} {w2 W W' : World} (h : RI base B lo hi R T bl bm c lns st w2 W) (hb : Below W.heap.size W W') (hh : hi ≤ W.heap.size) (hB : B ≤ hi) : RI base B lo hi R T bl bm (c + 2) lns st w2 W' := by
  obtain ⟨h1, ⟨va, h2, h3⟩, h4⟩ := h
  exact ⟨(h1.below hb).mono (by omega), ⟨va, (hb.block R (Array.getElem?_eq_some_iff.1 h2).1).trans h2, own_below h3 hb⟩, h4.step (by omega) hh hb⟩
theorem r_set {W : World} {R : Nat} {va m : Value} (h : W.heap[R]? = some (.cells #[va, m] 70 (0, 0))) (u : Value) : (W.setCell ⟨R, 0, none⟩ u).heap[R]? = some (.cells #[u, m] 70 (0, 0)) := by
  obtain ⟨hlt, hk⟩ := Array.getElem?_eq_some_iff.1 h
  show (W.heap.modify R _)[R]? = _
  rw [Array.getElem?_eq_getElem (by rw [Array.size_modify]; exact hlt), Array.getElem_modify_self, hk]
  rfl
theorem fin_step {base B lo hi R T bl bm c : Nat} {lns : List Ln} {ln : Ln} {st : Stk} {va va2 : Value} {w2 w7 : World} (htw : TW w7 T bl bm c st.lay st.last) (y7 : w7.heap[R]? = some (.cells #[va, .map none] 70 (0, 0)))
    (ho : w7.ownsRow base 103 5 va2 (lns.length + 1) (flN lns ++ ln.cells)) (kb : KB B lo hi w2 w7) (hR : B ≤ R ∧ R < lo) (hT : R ≠ T) (hRb : R < base) : RI base B lo hi R T bl bm c (lns ++ [ln]) st w2 (w7.setCell ⟨R, 0, none⟩ va2) := by
  have hg := gb_set w7 R 0 va2
  refine ⟨htw.turn hg y7 (by decide) hT, ⟨va2, r_set y7 va2, ?_⟩, kb.setCell (p := ⟨R, 0, none⟩) hR.1 (.inl hR.2) _⟩
  rw [List.length_append, flN_snoc]
  refine ho.kept hg ?_
  rcases ho.2 with ⟨rfl, h0⟩ | ⟨g, cap, cur, rfl, hb, -⟩
  · exact .inl rfl
  · refine .inr (fun e => ?_)
    have : g = R := by simpa [Value.ownBlock] using e
    omega

theorem Kept.turn {w w' : World} {bl X : Nat} {L : List UInt8 → List Lay} (h : Kept w bl L) (hg : w.grownBy w' (some X)) {cur : Array Value} {t : TypeId} {fz : Nat × Nat} (hX : w.heap[X]? = some (.cells cur t fz)) (ht : t ≠ 139) : Kept w' bl L := by
  obtain ⟨ks, f, m1, m2, m3⟩ := h
  exact ⟨ks, f, m1.kept hg (fun e => mv_nocells m1 cur t fz (by cases e; exact hX)), fun l => (m2 l).turn hg hX ht, m3⟩
theorem own_gb {w w' : World} {base e size n X : Nat} {v : Value} {xs : List Value} (h : w.ownsRow base e size v n xs) (hg : w.grownBy w' (some X)) (hX : X < base) : w'.ownsRow base e size v n xs := by
  refine h.kept hg ?_
  rcases h.2 with ⟨rfl, h0⟩ | ⟨g, cap, cur, rfl, hb, -⟩
  · exact .inl rfl
  · refine .inr (fun e => ?_)
    have : g = X := by simpa [Value.ownBlock] using e
    omega
theorem own_base_c {w : World} {b b' e size n : Nat} {v : Value} {xs : List Value} (h : w.ownsRow b e size v n xs) (hb : b' ≤ b) : w.ownsRow b' e size v n xs := by
  refine ⟨h.1, ?_⟩
  rcases h.2 with h | ⟨g, cap, cur, hv, hB, r⟩
  · exact Or.inl h
  · exact Or.inr ⟨g, cap, cur, hv, by omega, r⟩
theorem rdE_slice {hi lo : Nat} {w : World} {v : Value} {es : List Evt} (h : RdE hi w v es) (hlo : ∀ p n c, v = .slice (some p) n c → lo ≤ p.block) : ∃ a c, v = .slice a es.length c ∧ ∀ k (hk : k < es.length), ∃ b off, a = some ⟨b, off, none⟩ ∧ lo ≤ b ∧ b < hi ∧ ∀ j u, es[k].cells[j]? = some u → w.cell? ⟨b, off + k * 7 + j, none⟩ = some u := by
  rcases h with ⟨rfl, rfl⟩ | ⟨b, off, cap, rfl, hb, hc⟩
  · exact ⟨none, 0, rfl, fun k hk => absurd hk (by simp)⟩
  · exact ⟨_, cap, rfl, fun k hk => ⟨b, off, rfl, hlo _ _ _ rfl, hb, hc k hk⟩⟩
theorem r_set2 {W : World} {R : Nat} {va m : Value} (h : W.heap[R]? = some (.cells #[va, m] 70 (0, 0))) (u : Value) : (W.setCell ⟨R, 1, none⟩ u).heap[R]? = some (.cells #[va, u] 70 (0, 0)) := by
  obtain ⟨hlt, hk⟩ := Array.getElem?_eq_some_iff.1 h
  show (W.heap.modify R _)[R]? = _
  rw [Array.getElem?_eq_getElem (by rw [Array.size_modify]; exact hlt), Array.getElem_modify_self, hk]
  rfl
theorem run_start (w : World) : ∃ W0 B, B = w.heap.size ∧ W0 = ((((w.alloc (.cells #[.slice none 0 0, .map none] 70)).alloc (.map #[] 0)).alloc (.map #[] 0)).alloc (.cells #[.map (some (B + 1)), .map (some (B + 2))] 129)).alloc (.cells #[.slice none 0 0, .map none] 70) ∧
    Below w.heap.size w W0 ∧ W0.heap.size = B + 5 ∧ TW W0 (B + 3) (B + 1) (B + 2) 0 stk0.lay stk0.last ∧ W0.heap[B + 4]? = some (.cells #[.slice none 0 0, .map none] 70 (0, 0)) ∧ W0.heap[B]? = some (.cells #[.slice none 0 0, .map none] 70 (0, 0)) := by
  obtain ⟨w1, h1⟩ : ∃ w1, w1 = w.alloc (.cells #[.slice none 0 0, .map none] 70) := ⟨_, rfl⟩
  obtain ⟨w2, h2⟩ : ∃ w2, w2 = w1.alloc (.map #[] 0) := ⟨_, rfl⟩
  obtain ⟨w3, h3⟩ : ∃ w3, w3 = w2.alloc (.map #[] 0) := ⟨_, rfl⟩
  obtain ⟨w4, h4⟩ : ∃ w4, w4 = w3.alloc (.cells #[.map (some (w.heap.size + 1)), .map (some (w.heap.size + 2))] 129) := ⟨_, rfl⟩
  obtain ⟨w5, h5⟩ : ∃ w5, w5 = w4.alloc (.cells #[.slice none 0 0, .map none] 70) := ⟨_, rfl⟩
  have s1 : w1.heap.size = w.heap.size + 1 := by rw [h1]; simp
  have s2 : w2.heap.size = w.heap.size + 2 := by rw [h2]; simp [s1]
  have s3 : w3.heap.size = w.heap.size + 3 := by rw [h3]; simp [s2]
  have s4 : w4.heap.size = w.heap.size + 4 := by rw [h4]; simp [s3]
  have s5 : w5.heap.size = w.heap.size + 5 := by rw [h5]; simp [s4]
  have b1 : Below w.heap.size w w1 := by rw [h1]; exact (Below.refl _ w).new _
  have b2 : Below w1.heap.size w1 w2 := by rw [h2]; exact (Below.refl _ w1).new _
  have b3 : Below w2.heap.size w2 w3 := by rw [h3]; exact (Below.refl _ w2).new _
  have b4 : Below w3.heap.size w3 w4 := by rw [h4]; exact (Below.refl _ w3).new _
  have b5 : Below w4.heap.size w4 w5 := by rw [h5]; exact (Below.refl _ w4).new _
  have m1 : MV Tryz.prog 9 (.slice none 0 0) w2 (w.heap.size + 1) [] (fun _ => .slice none 0 0) := by rw [h2, ← s1]; exact MV.made _ _ _ w1
  have m2 : MVI Tryz.prog 9 w3 (w.heap.size + 2) [] (fun _ => 0) := by rw [h3, ← s2]; exact MVI.made _ _ w2
  have t4 : w4.heap[w.heap.size + 3]? = some (.cells #[.map (some (w.heap.size + 1)), .map (some (w.heap.size + 2))] 129 (0, 0)) := by rw [h4, ← s3]; exact World.alloc_heap_new w3 _
  have t5 := (b5.block (w.heap.size + 3) (by omega)).trans t4
  have r5 : w5.heap[w.heap.size + 4]? = some (.cells #[.slice none 0 0, .map none] 70 (0, 0)) := by rw [h5, ← s4]; exact World.alloc_heap_new w4 _
  have q1 : w1.heap[w.heap.size]? = some (.cells #[.slice none 0 0, .map none] 70 (0, 0)) := by rw [h1]; exact World.alloc_heap_new w _
  have q5 := (b5.block _ (by omega)).trans ((b4.block _ (by omega)).trans ((b3.block _ (by omega)).trans ((b2.block _ (by omega)).trans q1)))
  refine ⟨w5, w.heap.size, rfl, by rw [h5, h4, h3, h2, h1], (((b1.step b2).step b3).step b4).step b5, s5, ⟨?_, ?_, by omega, ⟨[], _, ((m1.below b3).below b4).below b5, Nat.le_refl _, fun l => RdY.nil _⟩, ⟨[], _, MV.below (MV.below m2 b4) b5, Nat.le_refl _, fun l => rfl⟩⟩, r5, q5⟩
  · simp [World.cell?, t5]
  · simp [World.cell?, t5]

set_option maxHeartbeats 8000000 in
set_option maxRecDepth 100000 in
theorem run_any (a : Option Addr) (n c : Nat) (es : List Evt) (w : World) (hr : RdE w.heap.size w (.slice a n c) es) (hlen : es.length ≤ 140) (hsz : ∀ e ∈ es, e.item.size ≤ 1000000) :
    Calls Tryz.prog 24 #[.slice a n c] w fun e w' => ∃ va bl, e = .returned (.agg #[va, .map (some bl)]) ∧ w'.ownsRow w.heap.size 103 5 va (runP stk0 (Stb.isort leE es)).1.length (flN (runP stk0 (Stb.isort leE es)).1) ∧ Kept w' bl (runP stk0 (Stb.isort leE es)).2.lay ∧ w.heap.size ≤ bl ∧ Below w.heap.size w w' := by
  have hmm := @run_makeMap Tryz.prog
  obtain ⟨W0, B, hBe, hW0, hb0, z0, hT0, hR0, hq0⟩ := run_start w
  obtain ⟨w1, hw1⟩ : ∃ w1, w1 = W0.alloc (.cells #[.slice a n c] 22) := ⟨_, rfl⟩
  have z1 : w1.heap.size = B + 6 := by rw [hw1]; simp [z0]
  have hb1 : Below W0.heap.size W0 w1 := by rw [hw1]; exact (Below.refl _ W0).new _
  have hc1 : w1.cell? ⟨B + 5, 0, none⟩ = some (.slice a n c) := by
    have := World.alloc_heap_new W0 (.cells #[.slice a n c] 22)
    rw [← hw1, z0] at this
    simp [World.cell?, this]
  have hr1 : RdE (B + 6) w1 (.slice a n c) es := ((hr.below (hb0.trans (hb1.mono (by omega)))).mono (by omega))
  have hseq := values1_seq (B + 5) (B + 6) (.slice a n c) es w1 (by omega) (by omega) (by omega) hc1 hr1
  rw [← z1] at hseq
  have HS := Lib.hid (sortedStable_any _ _ (enters_of Tryz.func91 (by kernel_rfl) rfl) es w1 (by omega) hseq)
  have HV := Lib.hid (values_any a n c W0)
  rw [← hw1, z0] at HV
  obtain ⟨es', hes'⟩ : ∃ es', es' = Stb.isort leE es := ⟨_, rfl⟩
  have hsz' : Hid (∀ e ∈ es', e.item.size ≤ 1000000) := fun e he => hsz e ((Stb.isort_mem leE_total leE_trans es e).1 (by rw [← hes']; exact he))
  have hlen' : es'.length ≤ 140 := by rw [hes', isort_length]; exact hlen
  rw [← hes'] at HS ⊢
  have hbB : Below B w w1 := by rw [hBe]; exact hb0.trans (hb1.mono (by omega))
  have hT1 : Aside (TW w1 (B + 3) (B + 1) (B + 2) 0 stk0.lay stk0.last) := hT0.below hb1
  have hR1 := Lib.hid ((hb1.block _ (Array.getElem?_eq_some_iff.1 hR0).1).trans hR0)
  have hq1 := Lib.hid ((hb1.block _ (Array.getElem?_eq_some_iff.1 hq0).1).trans hq0)
  clear hes' hsz hlen hr hr1 hseq hc1 hT0 hR0 hq0 hb1 hw1 hb0
  go_enter Tryz.func24, Tryz.ntmps24
  go_upto_region 3 with fail
  simp only [Nat.add_assoc, Nat.reduceAdd]
  rw [← hBe]
  rw [← hW0]
  have HBE := Lib.hid hBe
  have hBle : w.heap.size ≤ B := by omega
  clear hW0 hmm hBe z0
  go_wp2_with (first | (go_at_call 58; refine HV.out.mono ?_; rintro e w' ⟨rfl, hw'⟩; rw [hw']; clear hw') | (go_at_call 57; refine HS.out.mono ?_; rintro e w2 ⟨v2, rfl, hb2, hr2, hlo⟩; obtain ⟨a2, c2, rfl, hcs⟩ := rdE_slice hr2 hlo; have HCS := Lib.hid hcs; clear hcs hr2 hlo))
  have hz2 : B + 6 ≤ w2.heap.size := by have := hb2.size; omega
  have hw16 : B + 6 ≤ w1.heap.size := by omega
  have hT2 := hT1.out.below hb2
  have hR2 := (hb2.block _ (Array.getElem?_eq_some_iff.1 hR1.out).1).trans hR1.out
  have hq2 := Lib.hid ((hb2.block _ (Array.getElem?_eq_some_iff.1 hq1.out).1).trans hq1.out)
  have hBw := Lib.hid (hbB.trans (hb2.mono (by omega)))
  have HI0 : Aside (RI w2.heap.size (B + 1) (B + 5) w2.heap.size (B + 4) (B + 3) (B + 1) (B + 2) 0 [] stk0 w2 w2) := ⟨hT2, ⟨_, hR2, World.ownsRow_nil _ _ _ _⟩, KB.refl _ _ _ _⟩
  clear hT2 hR2 hb2 hT1 hR1 hq1 hbB HS HV z1
  obtain ⟨hi, hhi⟩ : ∃ hi, hi = w2.heap.size := ⟨_, rfl⟩
  have HHI := Lib.hid hhi
  rw [← hhi] at HI0 HCS hz2
  clear hhi
  go_loopg [15] es'.length (fun kx i wr => ∃ k : Nat, k ≤ es'.length ∧ i = .int .i64 k ∧ es'.length - k ≤ kx ∧ hi ≤ wr.heap.size ∧ Aside (RI hi (B + 1) (B + 5) hi (B + 4) (B + 3) (B + 1) (B + 2) (2 * k) (runP stk0 (es'.take k)).1 (runP stk0 (es'.take k)).2 w2 wr))
  case atStart => exact ⟨0, by omega, rfl, by omega, by rw [HHI.out]; exact Nat.le_refl _, HI0⟩
  case round =>
    clear HI0
    obtain ⟨k, hk, rfl, hkx, hzr, HRI⟩ := hrel
    by_cases hlt : k < es'.length
    · have hltz : (k : Int) < (es'.length : Int) := by omega
      obtain ⟨b, off, rfl, hblo, hbhi, hcc⟩ := HCS.out k hlt
      have hkb := HRI.out.2.2
      have hcr := fun j u hu => (hkb.cell (p := ⟨b, off + k * 7 + j, none⟩) (by show B + 5 ≤ b; omega) hbhi).trans (hcc j u hu)
      obtain ⟨e, he⟩ : ∃ e, e = es'[k] := ⟨_, rfl⟩
      rw [← he] at hcr hcc
      have hsz1 := hsz'.out e (by rw [he]; exact List.getElem_mem hlt)
      have HTK : Hid (es'.take (k + 1) = es'.take k ++ [e]) := by show _ = _; rw [List.take_succ_eq_append_getElem hlt, he]
      have hSn := sane_run (es'.take k) 0 stk0 sane0
      rw [Nat.zero_add, List.length_take, Nat.min_eq_left (Nat.le_of_lt hlt)] at hSn
      have hln := runP_len (es'.take k) stk0
      rw [List.length_take, Nat.min_eq_left (Nat.le_of_lt hlt)] at hln
      have HSNO := Lib.hid (runP_snoc (es'.take k) e stk0)
      rw [← HTK.out] at HSNO
      generalize runP stk0 (es'.take k) = rp at HRI hSn hln HSNO
      obtain ⟨lns, st⟩ := rp
      simp only at HRI hSn hln HSNO
      have HSN := Lib.hid hSn
      have hln2 : lns.length ≤ 140 := by omega
      obtain ⟨evr, hevr⟩ : ∃ evr, evr = e.right := ⟨_, rfl⟩
      rw [← hevr] at HSNO
      have HEV := Lib.hid hevr
      have HRT : Hid (∀ W, Calls Tryz.prog 40 #[e.agg] W (Gives (.bool evr) W)) := Lib.hid (fun W => by rw [hevr]; exact right_any e.id e.item e.kind e.qty e.price e.ofn e.day W hsz1)
      have HONE0 : Hid (∀ W, TW W (B + 3) (B + 1) (B + 2) (2 * k) st.lay st.last → evr = true → Calls Tryz.prog 59 #[.pointer (some ⟨B + 3, 0, none⟩), e.agg] W fun v w' => v = .returned (oneP st e).1.agg ∧ TW w' (B + 3) (B + 1) (B + 2) (2 * k + 2) (oneP st e).2.lay (oneP st e).2.last ∧ Li (B + 1) (B + 2) W w') :=
        Lib.hid (fun W hW hv => one_any _ _ _ _ k st e W hW hSn (by omega) (by omega) (by rw [← hevr]; exact hv))
      obtain ⟨r1, hr1⟩ : ∃ r1, r1 = oneP st e := ⟨_, rfl⟩
      rw [← hr1] at HSNO HONE0
      clear hr1 he hkb hcc hSn hln hevr
      obtain ⟨ln, st'⟩ := r1
      obtain ⟨i, s, kd, q, p, o, d⟩ := e
      have c0 : wr.cell? ⟨b, off + k * 7, none⟩ = some (.int .i64 i) := hcr 0 _ rfl
      have c1 : wr.cell? ⟨b, off + k * 7 + 1, none⟩ = some (.string s) := hcr 1 _ rfl
      have c2 : wr.cell? ⟨b, off + k * 7 + 2, none⟩ = some (.int .i64 kd) := hcr 2 _ rfl
      have c3 : wr.cell? ⟨b, off + k * 7 + 3, none⟩ = some (.int .i64 q) := hcr 3 _ rfl
      have c4 : wr.cell? ⟨b, off + k * 7 + 4, none⟩ = some (.int .i64 p) := hcr 4 _ rfl
      have c5 : wr.cell? ⟨b, off + k * 7 + 5, none⟩ = some (.int .i64 o) := hcr 5 _ rfl
      have c6 : wr.cell? ⟨b, off + k * 7 + 6, none⟩ = some (.int .i64 d) := hcr 6 _ rfl
      have HCC := Lib.hid hcr
      clear hcr
      simp only [Evt.agg] at HRT HONE0
      cases evr with
      | false =>
        go_wp2_with (go_at_call 40; refine (HRT.out _).mono ?_; rintro e w5 ⟨rfl, hb5⟩)
        have hb5' := ((Below.refl _ wr).new (Evt.ob ⟨i, s, kd, q, p, o, d⟩)).step hb5
        go_roundg (es'.length - (k + 1))
        case measure => omega
        case rel =>
          refine ⟨k + 1, hlt, by first | rfl | go_num | (congr 1; omega), Nat.le_refl _, Nat.le_trans hzr hb5'.size, (show Aside _ from ?_)⟩
          have hS := HSNO.out
          simp only [Bool.false_eq_true, if_false] at hS
          rw [hS]
          exact RI.below HRI.out hb5' hzr (by omega)
      | true =>
        go_upto_if 20 with (go_at_call 40; refine (HRT.out _).mono ?_; rintro e w5 ⟨rfl, hb5⟩)
        have x5 : w5.heap[wr.heap.size]? = some (Evt.ob ⟨i, s, kd, q, p, o, d⟩) := (hb5.block _ (by simp)).trans (World.alloc_heap_new wr _)
        have hb5' : Below wr.heap.size wr w5.drew := (((Below.refl _ wr).new (Evt.ob ⟨i, s, kd, q, p, o, d⟩)).step hb5).drew
        obtain ⟨h1, ⟨va, h2, h3⟩, h4⟩ := HRI.out
        have hT5 := h1.below hb5'
        have hR5 := (hb5'.block _ (Array.getElem?_eq_some_iff.1 h2).1).trans h2
        have hO5 := own_below h3 hb5'
        have hK5 := h4.step (by omega) hzr hb5'
        have x5d : w5.drew.heap[wr.heap.size]? = some (Evt.ob ⟨i, s, kd, q, p, o, d⟩) := x5
        obtain ⟨d0, d1, d2, d3, d4, d5, d6⟩ := ev_cells x5d
        have hz5 : hi ≤ w5.drew.heap.size := Nat.le_trans hzr hb5'.size
        have hB6 : wr.heap.size < w5.drew.heap.size := (Array.getElem?_eq_some_iff.1 x5d).1
        obtain ⟨vaa, vac, rfl⟩ := own_slice h3
        obtain ⟨W5, hW5⟩ : ∃ W5, W5 = w5.drew := ⟨_, rfl⟩
        rw [← hW5] at hT5 hR5 hO5 hK5 d0 d1 d2 d3 d4 d5 d6 hz5 hB6
        have HONE := Lib.hid (HONE0.out W5 hT5 (by simp))
        simp only [Ln.agg] at HONE
        have HLI : Aside (∀ w6, Li (B + 1) (B + 2) W5 w6 → w6.heap[B + 4]? = some (.cells #[.slice vaa lns.length vac, .map none] 70 (0, 0)) ∧ w6.ownsRow hi 103 5 (.slice vaa lns.length vac) lns.length (flN lns) ∧ KB (B + 1) (B + 5) hi w2 w6) := fun w6 hl =>
          ⟨hl.heap hR5 (by omega) (by omega), own_li hO5 hl (fun cur t fz => hT5.no_bl cur t fz) (fun cur t fz => hT5.no_bm cur t fz), kb_li hK5 hl (by omega) (by omega) hz5 (by omega)⟩
        have HFIN : Aside (∀ (w7 : World) (va2 : Value), TW w7 (B + 3) (B + 1) (B + 2) (2 * k + 2) st'.lay st'.last → w7.heap[B + 4]? = some (.cells #[.slice vaa lns.length vac, .map none] 70 (0, 0)) → w7.ownsRow hi 103 5 va2 (lns.length + 1) (flN lns ++ ln.cells) → KB (B + 1) (B + 5) hi w2 w7 → RI hi (B + 1) (B + 5) hi (B + 4) (B + 3) (B + 1) (B + 2) (2 * k + 2) (lns ++ [ln]) st' w2 (w7.setCell ⟨B + 4, 0, none⟩ va2) ∧ hi ≤ (w7.setCell ⟨B + 4, 0, none⟩ va2).heap.size) := fun w7 va2 q1 q2 q3 q4 =>
          ⟨fin_step q1 q2 q3 q4 (by omega) (by omega) (by omega), by have := q4.bel.size; rw [← HHI.out] at this; simpa using this⟩
        obtain ⟨k0, k1, k2, k3⟩ := r_cells hR5
        have hR5l : B + 4 < W5.heap.size := (Array.getElem?_eq_some_iff.1 hR5).1
        obtain ⟨i0, hinf, hiz, his, hib⟩ := info_parts info_ln
        clear h1 h2 h3 h4 hT5 hR5 hO5 hK5 x5 x5d hb5 hb5' HONE0 HRT c0 c1 c2 c3 c4 c5 c6
        have HREL : Aside (∀ W, RI hi (B + 1) (B + 5) hi (B + 4) (B + 3) (B + 1) (B + 2) (2 * k + 2) (lns ++ [ln]) st' w2 W → Aside (RI hi (B + 1) (B + 5) hi (B + 4) (B + 3) (B + 1) (B + 2) (2 * (k + 1)) (runP stk0 (es'.take (k + 1))).1 (runP stk0 (es'.take (k + 1))).2 w2 W)) := fun W hI => by
          have hS := HSNO.out
          simp only [if_true] at hS
          rw [hS]
          exact hI
        go_upto_region 7 with fail
        refine wp_region_any (by kernel_rfl) ?_
        change wpAny _ _ _ _ _ _ _ w5.drew
        rw [← hW5]
        clear hW5
        refine wpAny_take (i := 0) (v := ?_) rfl (by kernel_rfl) (by kernel_rfl) (by kernel_rfl) (fun _ _ _ h => h) (Or.inl ⟨by rfl, ?_⟩) ?_
        rotate_left
        · intro _; go_simp; try (with_reducible rfl)
        refine wpAny_take (i := 2) (v := ?_) rfl (by kernel_rfl) (by kernel_rfl) (by kernel_rfl) (fun _ _ _ h => h) (Or.inl ⟨by rfl, ?_⟩) ?_
        rotate_left
        · intro _; go_simp; try (with_reducible rfl)
        refine wpAny_ready (rs := [1, 3]) (by kernel_rfl) (by simp) (AllReady.cons rfl (fun K hK => ?_) (AllReady.cons rfl (fun K hK => ?_) AllReady.nil))
        · go_simp
          refine hK _ _ ?_
          clear hK K
          refine wpAny_ready (rs := [3]) (by kernel_rfl) (by simp) (AllReady.cons rfl (fun K hK => ?_) AllReady.nil)
          go_simp
          refine hK _ _ ?_
          clear hK K
          refine wpAny_ready (rs := [4]) (by kernel_rfl) (by simp) (AllReady.cons rfl (fun K hK => ?_) AllReady.nil)
          go_simp
          refine HONE.out.mono ?_
          rintro v w6 ⟨rfl, htw, hli⟩
          obtain ⟨y6, ho6, kb6⟩ := HLI.out w6 hli
          obtain ⟨r0, r1, rf0, rf1⟩ := r_cells y6
          have hbs6 := hli.size
          have hR6 : B + 4 < w6.heap.size := (Array.getElem?_eq_some_iff.1 y6).1
          refine hK _ _ ?_
          clear hK K
          refine wpAny_ready (rs := [5]) (by kernel_rfl) (by simp) (AllReady.cons rfl (fun K hK => ?_) AllReady.nil)
          go_simp
          refine hK _ _ ?_
          clear hK K
          refine wpAny_ready (rs := [6]) (by kernel_rfl) (by simp) (AllReady.cons rfl (fun K hK => ?_) AllReady.nil)
          refine wp_append_own _ (.tmp 22) (.tmp 26) 67 rfl hi 103 i0 (.agg #[.int .i64 0, .int .i64 0, .int .i64 0, .int .i64 0, .bool false]) 5 40 Tryz.underlying67 hinf hiz his hib rfl (by decide) _ lns.length (flN lns) rfl (ho6.alloc _) ⟨w6.heap.size, 0, none⟩ 1 1 ln.cells rfl rfl (fun j u hj => new_cells w6 ln hj) (one_ln _) (by unfold maxLen; omega) (by omega) (by simp; omega) ?_
          intro va2 w7 ho7 hg7 _
          obtain ⟨y7, htw7, kb7⟩ := app_step htw y6 ho6 hg7 (by omega) (by omega) kb6 (by omega)
          obtain ⟨r70, r71, rf70, rf71⟩ := r_cells y7
          obtain ⟨a7, c7, rfl⟩ := own_slice ho7
          have hR7 : B + 4 < w7.heap.size := (Array.getElem?_eq_some_iff.1 y7).1
          refine hK _ _ ?_
          clear hK K
          refine wpAny_take (i := 7) (v := ?_) rfl (by kernel_rfl) (by kernel_rfl) (by kernel_rfl) (fun _ _ _ h => h) (Or.inl ⟨by rfl, ?_⟩) ?_
          rotate_left
          · intro _; go_simp; try (with_reducible rfl)
          refine wpAny_ready (rs := [8]) (by kernel_rfl) (by simp) (AllReady.cons rfl (fun K hK => ?_) AllReady.nil)
          go_simp
          have hrel8 := HFIN.out w7 _ htw7 y7 ho7 kb7
          refine hK _ _ ?_
          clear hK K
          refine wpAny_done (by kernel_rfl) ?_ _
          go_wp2
          go_roundg (es'.length - (k + 1))
          case measure => omega
          case rel => exact ⟨k + 1, hlt, by first | rfl | go_num | (congr 1; omega), Nat.le_refl _, hrel8.2, HREL.out _ hrel8.1⟩
        · go_simp
          refine hK _ _ ?_
          clear hK K
          refine wpAny_ready (rs := [1, 4]) (by kernel_rfl) (by simp) (AllReady.cons rfl (fun K hK => ?_) (AllReady.cons rfl (fun K hK => ?_) AllReady.nil))
          · go_simp
            refine hK _ _ ?_
            clear hK K
            refine wpAny_ready (rs := [4]) (by kernel_rfl) (by simp) (AllReady.cons rfl (fun K hK => ?_) AllReady.nil)
            go_simp
            refine HONE.out.mono ?_
            rintro v w6 ⟨rfl, htw, hli⟩
            obtain ⟨y6, ho6, kb6⟩ := HLI.out w6 hli
            obtain ⟨r0, r1, rf0, rf1⟩ := r_cells y6
            have hbs6 := hli.size
            have hR6 : B + 4 < w6.heap.size := (Array.getElem?_eq_some_iff.1 y6).1
            refine hK _ _ ?_
            clear hK K
            refine wpAny_ready (rs := [5]) (by kernel_rfl) (by simp) (AllReady.cons rfl (fun K hK => ?_) AllReady.nil)
            go_simp
            refine hK _ _ ?_
            clear hK K
            refine wpAny_ready (rs := [6]) (by kernel_rfl) (by simp) (AllReady.cons rfl (fun K hK => ?_) AllReady.nil)
            refine wp_append_own _ (.tmp 22) (.tmp 26) 67 rfl hi 103 i0 (.agg #[.int .i64 0, .int .i64 0, .int .i64 0, .int .i64 0, .bool false]) 5 40 Tryz.underlying67 hinf hiz his hib rfl (by decide) _ lns.length (flN lns) rfl (ho6.alloc _) ⟨w6.heap.size, 0, none⟩ 1 1 ln.cells rfl rfl (fun j u hj => new_cells w6 ln hj) (one_ln _) (by unfold maxLen; omega) (by omega) (by simp; omega) ?_
            intro va2 w7 ho7 hg7 _
            obtain ⟨y7, htw7, kb7⟩ := app_step htw y6 ho6 hg7 (by omega) (by omega) kb6 (by omega)
            obtain ⟨r70, r71, rf70, rf71⟩ := r_cells y7
            obtain ⟨a7, c7, rfl⟩ := own_slice ho7
            have hR7 : B + 4 < w7.heap.size := (Array.getElem?_eq_some_iff.1 y7).1
            refine hK _ _ ?_
            clear hK K
            refine wpAny_take (i := 7) (v := ?_) rfl (by kernel_rfl) (by kernel_rfl) (by kernel_rfl) (fun _ _ _ h => h) (Or.inl ⟨by rfl, ?_⟩) ?_
            rotate_left
            · intro _; go_simp; try (with_reducible rfl)
            refine wpAny_ready (rs := [8]) (by kernel_rfl) (by simp) (AllReady.cons rfl (fun K hK => ?_) AllReady.nil)
            go_simp
            have hrel8 := HFIN.out w7 _ htw7 y7 ho7 kb7
            refine hK _ _ ?_
            clear hK K
            refine wpAny_done (by kernel_rfl) ?_ _
            go_wp2
            go_roundg (es'.length - (k + 1))
            case measure => omega
            case rel => exact ⟨k + 1, hlt, by first | rfl | go_num | (congr 1; omega), Nat.le_refl _, hrel8.2, HREL.out _ hrel8.1⟩
          · go_simp
            refine HONE.out.mono ?_
            rintro v w6 ⟨rfl, htw, hli⟩
            obtain ⟨y6, ho6, kb6⟩ := HLI.out w6 hli
            obtain ⟨r0, r1, rf0, rf1⟩ := r_cells y6
            have hbs6 := hli.size
            have hR6 : B + 4 < w6.heap.size := (Array.getElem?_eq_some_iff.1 y6).1
            refine hK _ _ ?_
            clear hK K
            refine wpAny_ready (rs := [1, 5]) (by kernel_rfl) (by simp) (AllReady.cons rfl (fun K hK => ?_) (AllReady.cons rfl (fun K hK => ?_) AllReady.nil))
            · go_simp
              refine hK _ _ ?_
              clear hK K
              refine wpAny_ready (rs := [5]) (by kernel_rfl) (by simp) (AllReady.cons rfl (fun K hK => ?_) AllReady.nil)
              go_simp
              refine hK _ _ ?_
              clear hK K
              refine wpAny_ready (rs := [6]) (by kernel_rfl) (by simp) (AllReady.cons rfl (fun K hK => ?_) AllReady.nil)
              refine wp_append_own _ (.tmp 22) (.tmp 26) 67 rfl hi 103 i0 (.agg #[.int .i64 0, .int .i64 0, .int .i64 0, .int .i64 0, .bool false]) 5 40 Tryz.underlying67 hinf hiz his hib rfl (by decide) _ lns.length (flN lns) rfl (ho6.alloc _) ⟨w6.heap.size, 0, none⟩ 1 1 ln.cells rfl rfl (fun j u hj => new_cells w6 ln hj) (one_ln _) (by unfold maxLen; omega) (by omega) (by simp; omega) ?_
              intro va2 w7 ho7 hg7 _
              obtain ⟨y7, htw7, kb7⟩ := app_step htw y6 ho6 hg7 (by omega) (by omega) kb6 (by omega)
              obtain ⟨r70, r71, rf70, rf71⟩ := r_cells y7
              obtain ⟨a7, c7, rfl⟩ := own_slice ho7
              have hR7 : B + 4 < w7.heap.size := (Array.getElem?_eq_some_iff.1 y7).1
              refine hK _ _ ?_
              clear hK K
              refine wpAny_take (i := 7) (v := ?_) rfl (by kernel_rfl) (by kernel_rfl) (by kernel_rfl) (fun _ _ _ h => h) (Or.inl ⟨by rfl, ?_⟩) ?_
              rotate_left
              · intro _; go_simp; try (with_reducible rfl)
              refine wpAny_ready (rs := [8]) (by kernel_rfl) (by simp) (AllReady.cons rfl (fun K hK => ?_) AllReady.nil)
              go_simp
              have hrel8 := HFIN.out w7 _ htw7 y7 ho7 kb7
              refine hK _ _ ?_
              clear hK K
              refine wpAny_done (by kernel_rfl) ?_ _
              go_wp2
              go_roundg (es'.length - (k + 1))
              case measure => omega
              case rel => exact ⟨k + 1, hlt, by first | rfl | go_num | (congr 1; omega), Nat.le_refl _, hrel8.2, HREL.out _ hrel8.1⟩
            · go_simp
              refine hK _ _ ?_
              clear hK K
              refine wpAny_ready (rs := [1]) (by kernel_rfl) (by simp) (AllReady.cons rfl (fun K hK => ?_) AllReady.nil)
              go_simp
              refine hK _ _ ?_
              clear hK K
              refine wpAny_ready (rs := [6]) (by kernel_rfl) (by simp) (AllReady.cons rfl (fun K hK => ?_) AllReady.nil)
              refine wp_append_own _ (.tmp 22) (.tmp 26) 67 rfl hi 103 i0 (.agg #[.int .i64 0, .int .i64 0, .int .i64 0, .int .i64 0, .bool false]) 5 40 Tryz.underlying67 hinf hiz his hib rfl (by decide) _ lns.length (flN lns) rfl (ho6.alloc _) ⟨w6.heap.size, 0, none⟩ 1 1 ln.cells rfl rfl (fun j u hj => new_cells w6 ln hj) (one_ln _) (by unfold maxLen; omega) (by omega) (by simp; omega) ?_
              intro va2 w7 ho7 hg7 _
              obtain ⟨y7, htw7, kb7⟩ := app_step htw y6 ho6 hg7 (by omega) (by omega) kb6 (by omega)
              obtain ⟨r70, r71, rf70, rf71⟩ := r_cells y7
              obtain ⟨a7, c7, rfl⟩ := own_slice ho7
              have hR7 : B + 4 < w7.heap.size := (Array.getElem?_eq_some_iff.1 y7).1
              refine hK _ _ ?_
              clear hK K
              refine wpAny_take (i := 7) (v := ?_) rfl (by kernel_rfl) (by kernel_rfl) (by kernel_rfl) (fun _ _ _ h => h) (Or.inl ⟨by rfl, ?_⟩) ?_
              rotate_left
              · intro _; go_simp; try (with_reducible rfl)
              refine wpAny_ready (rs := [8]) (by kernel_rfl) (by simp) (AllReady.cons rfl (fun K hK => ?_) AllReady.nil)
              go_simp
              have hrel8 := HFIN.out w7 _ htw7 y7 ho7 kb7
              refine hK _ _ ?_
              clear hK K
              refine wpAny_done (by kernel_rfl) ?_ _
              go_wp2
              go_roundg (es'.length - (k + 1))
              case measure => omega
              case rel => exact ⟨k + 1, hlt, by first | rfl | go_num | (congr 1; omega), Nat.le_refl _, hrel8.2, HREL.out _ hrel8.1⟩
    · have hltz : ¬ (k : Int) < (es'.length : Int) := by omega
      have hke : k = es'.length := by omega
      subst hke
      rw [List.take_length] at HRI
      generalize hrp : runP stk0 es' = rp at HRI
      have HRP := Lib.hid hrp
      clear hrp
      obtain ⟨lns, st⟩ := rp
      simp only at HRI
      obtain ⟨h1, ⟨va, h2, h3⟩, h4⟩ := HRI.out
      obtain ⟨vaa, vac, rfl⟩ := own_slice h3
      have HD := Lib.hid (deleteFunc_any (B + 3) (B + 1) (B + 2) _ st.lay st.last wr h1)
      have t0 := h1.t0
      have q9 := (h4.bel.block B (by omega)).trans hq2.out
      obtain ⟨a0, a1, a2, a3⟩ := r_cells h2
      have HH := Lib.hid (And.intro h2 (And.intro h3 (And.intro h4.bel (And.intro q9 (And.intro h1.no_bl h1.no_bm)))))
      have T0 := Lib.hid t0
      clear h1 h2 h3 h4 q9 HRI
      go_wp2_with (go_at_call 60; refine HD.out.mono ?_; rintro e w8 ⟨rfl, hkp, hli⟩; have t8 := hli.cell T0.out (by show B + 3 ≠ B + 1; omega) (by show B + 3 ≠ B + 2; omega); have y8 := hli.heap HH.out.1 (by omega) (by omega); obtain ⟨k0, k1, k2, k3⟩ := r_cells y8; have q8 := hli.heap HH.out.2.2.2.1 (by omega) (by omega); obtain ⟨j0, j1, j2, j3⟩ := r_cells q8)
      obtain ⟨h2, h3, hbel, q9, nb1, nb2⟩ := HH.out
      have o8 := own_li h3 hli nb1 nb2
      have hgR := gb_set w8 (B + 4) 1 (.map (some (B + 1)))
      have qR := (hgR.block B (Array.getElem?_eq_some_iff.1 q8).1 (by simp)).trans q8
      have hgB := gb_trans (gb_set (w8.setCell ⟨B + 4, 1, none⟩ (.map (some (B + 1)))) B 0 (.slice vaa lns.length vac)) (gb_set _ _ 1 (.map (some (B + 1))))
      have hBW := hBw.out
      have hb8 : Below B w w8 := hli.below (hBW.trans (hbel.mono (by omega))) (by omega) (by omega) (by have := hbel.size; omega)
      refine bodyPost_ret (v := .agg #[.slice vaa lns.length vac, .map (some (B + 1))]) ?res rfl ⟨_, B + 1, rfl, ?_, ?_, by omega, ?_⟩
      case res => simp [results, Tryz.results24, go_sem, j0, j1]
      · rw [HRP.out]
        exact own_base_c (own_gb (own_gb o8 hgR (by omega)) hgB (by omega)) (by omega)
      · rw [HRP.out]
        exact (hkp.turn hgR y8 (by decide)).turn hgB qR (by decide)
      · rw [← HBE.out]
        exact ((hb8.setCell (p := ⟨B + 4, 1, none⟩) (by show B ≤ B + 4; omega) _).setCell (p := ⟨B, 0, none⟩) (Nat.le_refl B) _).setCell (p := ⟨B, 1, none⟩) (Nat.le_refl B) _
end Go.Proofs.YtackpcohmmlkeaaGreatDoor
end

/- CsPa: cost.Run's result: Sum; slices.IndexFunc at events. -/
section
namespace Go.Proofs.YtackpcohmmlkeaaGreatDoor
open Go.RowKit
open Go.Maps (Keyed)
set_option linter.unusedVariables false

theorem Kept.below {w w' : World} {bl : Nat} {L : List UInt8 → List Lay} (h : Kept w bl L) (hb : Below w.heap.size w w') : Kept w' bl L := by
  obtain ⟨ks, f, m1, m2, m3⟩ := h
  exact ⟨ks, f, m1.below hb, fun l => (m2 l).below hb, m3⟩
theorem Kept.lt {w : World} {bl : Nat} {L : List UInt8 → List Lay} (h : Kept w bl L) : bl < w.heap.size := by
  obtain ⟨ks, f, m1, -⟩ := h; exact m1.lt
/-- 'r.Layers[item]', in whatever world behind. -/
theorem Kept.looks {w : World} {bl : Nat} {L : List UInt8 → List Lay} (h : Kept w bl L) (s : ByteArray) (hs : s.size ≤ maxLen) : ∃ v, RdY w v (L s.data.toList) ∧ ∀ W, Below w.heap.size w W → (Instr.lookup 68 (.map (some bl)) (.string s) false).run Tryz.prog W = .ok v W := by
  obtain ⟨ks, f, m1, m2, m3⟩ := h
  exact ⟨_, m2 _, fun W hb => (m1.below hb).get (Go.Maps.string_keyed Tryz.underlying9) Tryz.underlying68 (zero_sl W) (key_bytes s hs)⟩
theorem sumV_snoc (ls : List Lay) (x : Lay) : sumV (ls ++ [x]) = sumV ls + x.val := by simp [sumV]
theorem sumV_take {ls : List Lay} (h : ∀ x ∈ ls, 1 ≤ x.qty ∧ x.qty ≤ 100000 ∧ 0 ≤ x.val) (k : Nat) : 0 ≤ sumV (ls.take k) ∧ sumV (ls.take k) ≤ sumV ls := by
  have e : sumV ls = sumV (ls.take k) + sumV (ls.drop k) := by rw [← sumV_app, List.take_append_drop]
  have h1 := sumV_nn (ls := ls.take k) fun x hx => h x (List.mem_of_mem_take hx)
  have h2 := sumV_nn (ls := ls.drop k) fun x hx => h x (List.mem_of_mem_drop hx)
  omega
set_option maxHeartbeats 2000000 in
set_option maxRecDepth 100000 in
theorem sum_any (va : Value) (bl : Nat) (L : List UInt8 → List Lay) (s : ByteArray) (w : World) (hva : ∃ a n c, va = .slice a n c) (h : Kept w bl L) (hs : s.size ≤ maxLen) (hg : GoodY 20000000000000 (L s.data.toList)) (hl : (L s.data.toList).length ≤ 1000) :
    Calls Tryz.prog 25 #[.agg #[va, .map (some bl)], .string s] w fun e w' => e = .returned (.tuple #[.int .i64 (sumQ (L s.data.toList)), .int .i64 (sumV (L s.data.toList))]) ∧ Below w.heap.size w w' := by
  obtain ⟨xa, xn, xc, rfl⟩ := hva
  obtain ⟨v, hr, hlook⟩ := h.looks s hs
  obtain ⟨W0, hW0⟩ : ∃ W0, W0 = w.alloc (.cells #[.slice xa xn xc, .map (some bl)] 70) := ⟨_, rfl⟩
  have hb0 : Below w.heap.size w W0 := by rw [hW0]; exact (Below.refl _ w).new _
  have look := hlook W0 hb0
  have hr1 := hr.below hb0
  rw [hW0] at look
  generalize L s.data.toList = ls at hr1 hg hl ⊢
  obtain ⟨a, cp, rfl, -⟩ := id hr1
  have HR : Aside (RdY W0 (.slice a ls.length cp) ls) := hr1
  have HG : Aside _ := hg
  have HW := Lib.hid hW0
  have HB0 := Lib.hid hb0
  clear h hr hr1 hg hlook hb0 hW0
  go_enter Tryz.func25, Tryz.ntmps25
  go_wp2
  rw [← HW.out]
  clear look
  go_loopg [4, 5, 13] ls.length (fun kx q v i wr => ∃ k : Nat, k ≤ ls.length ∧ q = .int .i64 (sumQ (ls.take k)) ∧ v = .int .i64 (sumV (ls.take k)) ∧ i = .int .i64 k ∧ ls.length - k ≤ kx ∧ Below W0.heap.size W0 wr)
  case atStart => exact ⟨0, by omega, rfl, rfl, rfl, by omega, Below.refl _ _⟩
  case round =>
    obtain ⟨k, hk, rfl, rfl, rfl, hkx, hb⟩ := hrel
    by_cases hlt : k < ls.length
    · have hltz : (k : Int) < (ls.length : Int) := by omega
      obtain ⟨-, b, off, rfl, p0, p1, p2⟩ := (HR.out.below hb).at k hlt
      have hx := HG.out.1 ls[k] (List.getElem_mem hlt)
      have hbd := sumQ_bd (ls.take k) (fun x hx => by have := HG.out.1 x (List.mem_of_mem_take hx); omega)
      have hbv := sumV_take HG.out.1 k
      have hbv2 := sumV_take HG.out.1 (k + 1)
      have hB2 := HG.out.2
      have hS : Hid (sumQ (ls.take (k + 1)) = sumQ (ls.take k) + ls[k].qty) := by show _ = _; rw [List.take_succ_eq_append_getElem hlt, sumQ_snoc]
      have hV' : sumV (ls.take (k + 1)) = sumV (ls.take k) + ls[k].val := by rw [List.take_succ_eq_append_getElem hlt, sumV_snoc]
      rw [hV'] at hbv2
      have hV := Lib.hid hV'
      have htl : (ls.take k).length ≤ 1000 := by rw [List.length_take]; omega
      generalize ls[k] = x at p0 p1 p2 hx hS hV hbv2
      generalize sumQ (ls.take k) = S at hbd hS ⊢
      generalize sumV (ls.take k) = V at hbv hbv2 hV ⊢
      generalize sumV ls = VV at hbv hbv2 hB2
      clear hV'
      go_wp2
      go_roundg (ls.length - (k + 1))
      case measure => omega
      case rel => exact ⟨k + 1, hlt, by rw [hS.out], by rw [hV.out], by first | rfl | go_num | (congr 1; omega), Nat.le_refl _, hb.new _⟩
    · have hltz : ¬ (k : Int) < (ls.length : Int) := by omega
      have hke : k = ls.length := by omega
      subst hke
      rw [List.take_length]
      go_wp2
      go_ret2
      exact ⟨rfl, HB0.out.step hb⟩
/-- The first one, or none. -/
def First (p : Evt → Bool) (es : List Evt) (z : Int) : Prop := (z = -1 ∧ ∀ x ∈ es, p x = false) ∨ ∃ k : Nat, ∃ hk : k < es.length, z = k ∧ p es[k] = true ∧ ∀ j (hj : j < k), p es[j] = false
theorem First.any {p : Evt → Bool} {es : List Evt} {z : Int} (h : First p es z) : decide (0 ≤ z) = es.any p := by
  rcases h with ⟨rfl, h⟩ | ⟨k, hk, rfl, h, -⟩
  · rw [show es.any p = false from by rw [List.any_eq_false]; exact fun x hx => by rw [h x hx]; simp]
    rfl
  · rw [show es.any p = true from List.any_eq_true.2 ⟨_, List.getElem_mem hk, h⟩]
    simp
set_option maxHeartbeats 1000000 in
set_option maxRecDepth 100000 in
theorem indexE_any (g : Nat) (cb : Array Value) (p : Evt → Bool) (hi : Nat) (v : Value) (es : List Evt) (w : World) (hr : RdE hi w v es) (hh : hi ≤ w.heap.size) (hlen : es.length ≤ 1000) (eg : ∀ args w, (callFunc g args).run Tryz.prog w = .ok (.enter g args) w)
    (hf : ∀ e ∈ es, ∀ W, Below w.heap.size w W → Calls Tryz.prog g (#[e.agg] ++ cb) W fun x w' => x = .returned (.bool (p e)) ∧ Below W.heap.size W w') :
    Calls Tryz.prog 41 #[v, .func (.func g) #[] cb] w fun e w' => ∃ z, e = .returned (.int .i64 z) ∧ First p es z ∧ Below w.heap.size w w' := by
  obtain ⟨a, c, rfl⟩ := hr.shape
  have HR := Lib.hid hr
  have HF := Lib.hid hf
  clear hr hf
  go_enter Tryz.func41, Tryz.ntmps41
  go_wp2
  go_loopg [8] es.length (fun kx i wr => ∃ k : Nat, k ≤ es.length ∧ i = .int .i64 k ∧ es.length - k ≤ kx ∧ Hid (∀ j (hj : j < k) (h2 : j < es.length), p es[j] = false) ∧ Below w.heap.size w wr)
  case atStart => exact ⟨0, by omega, rfl, by omega, fun j hj => absurd hj (by omega), Below.refl _ _⟩
  case round =>
    obtain ⟨k, hk, rfl, hkx, HN, hb⟩ := hrel
    by_cases hlt : k < es.length
    · have hltz : (k : Int) < (es.length : Int) := by omega
      obtain ⟨b, off, rfl, hbh, h7⟩ := HR.out.seven k hlt
      obtain ⟨c0, c1, c2, c3, c4, c5, c6⟩ := h7 wr (hb.mono hh)
      obtain ⟨e, he⟩ : ∃ e, e = es[k] := ⟨_, rfl⟩
      have HC := Lib.hid (HF.out e (by rw [he]; exact List.getElem_mem hlt) wr hb)
      rw [← he] at c0 c1 c2 c3 c4 c5 c6
      have HE := Lib.hid he
      clear h7 he
      simp only [Evt.agg] at HC
      cases hp : p e with
      | true =>
        have HPE := Lib.hid hp
        rw [hp] at HC
        clear hp
        go_wp2_with (go_at_fn g; refine HC.out.mono ?_; rintro e w2 ⟨rfl, hb2⟩)
        (try simp only [Exit.inBlock, Exit.then])
        refine bodyPost_ret (results_tmp rfl _ _ _) rfl ?_
        exact ⟨_, rfl, .inr ⟨k, hlt, rfl, by rw [← HE.out]; exact HPE.out, fun j hj => HN.out j hj (by omega)⟩, hb.step hb2⟩
      | false =>
        have HPE := Lib.hid hp
        rw [hp] at HC
        clear hp
        go_wp2_with (go_at_fn g; refine HC.out.mono ?_; rintro e w2 ⟨rfl, hb2⟩)
        go_roundg (es.length - (k + 1))
        case measure => omega
        case rel =>
          refine ⟨k + 1, hlt, by first | rfl | go_num | (congr 1; omega), Nat.le_refl _, (show Hid _ from fun j hj h2 => ?_), hb.step hb2⟩
          by_cases hjk : j = k
          · subst hjk; rw [← HE.out]; exact HPE.out
          · exact HN.out j (by omega) h2
    · have hltz : ¬ (k : Int) < (es.length : Int) := by omega
      go_wp2
      go_ret
      refine ⟨_, rfl, .inl ⟨rfl, fun x hx => ?_⟩, hb⟩
      obtain ⟨j, hj, rfl⟩ := List.getElem_of_mem hx
      exact HN.out j (by omega) hj
end Go.Proofs.YtackpcohmmlkeaaGreatDoor
end
