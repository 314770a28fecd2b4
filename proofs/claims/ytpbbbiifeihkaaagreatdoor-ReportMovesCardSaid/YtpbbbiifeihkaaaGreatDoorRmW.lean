/- Joined: RpB, RmW. -/
import Derived.Test.YtpbbbiifeihkaaaGreatDoorBkN
import Derived.Test.YtpbbbiifeihkaaaGreatDoorRpR
import Derived.Test.YtpbbbiifeihkaaaGreatDoorRpM
import Derived.Test.YtpbbbiifeihkaaaGreatDoorEvG

/- RpB: made: a book of acts. -/
section
namespace Go.Proofs.YtpbbbiifeihkaaaGreatDoor
open Go.RowKit
set_option linter.unusedVariables false
set_option linter.unusedSimpArgs false

def madeB (l : List ActV) : Bk := l.foldl (fun b x => (b.act x).1) bk0
theorem madeB_snoc (l : List ActV) (x : ActV) : madeB (l ++ [x]) = ((madeB l).act x).1 := by simp [madeB]
theorem act_num (b : Bk) (x : ActV) : (b.act x).1.turn ≤ b.turn + 1 ∧ (b.act x).1.next ≤ b.next + 1 := by
  have hp : (b.post x.e).1.turn ≤ b.turn + 1 ∧ (b.post x.e).1.next ≤ b.next + 1 := by
    unfold Bk.post
    split
    · split
      · exact ⟨by simp only; omega, by simp only; omega⟩
      · exact ⟨Int.le_refl _, Int.le_refl _⟩
    · exact ⟨by simp only; omega, by simp only; omega⟩
  have hc : (b.correct x.id x.e).1.turn ≤ b.turn + 1 ∧ (b.correct x.id x.e).1.next ≤ b.next + 1 := by
    unfold Bk.correct
    split
    · exact ⟨by simp only; omega, by simp only; omega⟩
    · split
      · split
        · exact ⟨by simp only; omega, by simp only; omega⟩
        · exact ⟨by simp only; omega, by simp only; omega⟩
      · exact ⟨by simp only; omega, by simp only; omega⟩
  have hv : (b.void x.id).1.turn ≤ b.turn + 1 ∧ (b.void x.id).1.next ≤ b.next + 1 := by
    unfold Bk.void
    split
    · exact ⟨by simp only; omega, by simp only; omega⟩
    · exact ⟨by simp only; omega, by simp only; omega⟩
  unfold Bk.act
  split
  · exact hp
  · split
    · exact hc
    · split
      · exact hv
      · exact ⟨by simp only; omega, by simp only; omega⟩
theorem madeB_ok : ∀ (l : List ActV), BkI (madeB l) ∧ (madeB l).turn ≤ l.length ∧ (madeB l).next ≤ l.length := by
  suffices h : ∀ (l : List ActV) (b : Bk) (n : Nat), BkI b → b.turn ≤ n → b.next ≤ n → BkI (l.foldl (fun b x => (b.act x).1) b) ∧ (l.foldl (fun b x => (b.act x).1) b).turn ≤ n + l.length ∧ (l.foldl (fun b x => (b.act x).1) b).next ≤ n + l.length by
    intro l
    have := h l bk0 0 bkI0 (by decide) (by decide)
    simpa [madeB] using this
  intro l
  induction l with
  | nil => intro b n h1 h2 h3; exact ⟨h1, by simpa using h2, by simpa using h3⟩
  | cons x l ih =>
    intro b n h1 h2 h3
    obtain ⟨a1, a2⟩ := act_num b x
    obtain ⟨i1, i2, i3⟩ := ih (b.act x).1 (n + 1) (h1.act x) (by omega) (by omega)
    simp only [List.foldl_cons, List.length_cons]
    exact ⟨i1, by omega, by omega⟩
set_option maxHeartbeats 2000000 in
set_option maxRecDepth 100000 in
theorem made_any (hi : Nat) (v : Value) (l : List ActV) (w : World) (hr : RdA hi w v l) (hh : hi ≤ w.heap.size) (hlen : l.length ≤ 40) (hit : ∀ x ∈ l, x.e.item.size ≤ 60) :
    Calls Tryz.prog 22 #[v] w fun e w' => e = .returned (.pointer (some ⟨w.heap.size, 0, none⟩)) ∧ BkW w' w.heap.size (madeB l) ∧ Below w.heap.size w w' := by
  have HR := Lib.hid hr
  obtain ⟨a, c, rfl, -⟩ := hr
  have HIT := Lib.hid hit
  have HK0 := Lib.hid (bkW_new w)
  have HB0 := Lib.hid ((Below.refl w.heap.size w).new bookOb)
  clear hit
  go_enter Tryz.func22, Tryz.ntmps22
  go_wp2_with fail
  generalize (w.alloc bookOb) = W3 at HK0 HB0 ⊢
  have hB : w.heap.size ≤ w.heap.size := Nat.le_refl _
  go_loopg [4] l.length (fun kx i wr => ∃ k : Nat, k ≤ l.length ∧ i = .int .i64 k ∧ l.length - k ≤ kx ∧ Hid (BkW wr w.heap.size (madeB (l.take k))) ∧ Hid (Below w.heap.size w wr))
  case atStart => exact ⟨0, by omega, rfl, by omega, HK0, HB0⟩
  case round =>
    obtain ⟨k, hk, rfl, hkx, HK, HBR⟩ := hrel
    by_cases hlt : k < l.length
    · have hltz : (k : Int) < (l.length : Int) := by omega
      obtain ⟨a', c', ea, hcell⟩ := HR.out
      injection ea with ea1 ea2 ea3
      subst ea1 ea3
      obtain ⟨g, off, rfl, hgl, hc⟩ := hcell k hlt
      clear hcell
      have hcw := fun j u hu => (HBR.out.cell (p := ⟨g, off + k * 9 + j, none⟩) (by show g < w.heap.size; omega)).trans (hc j u hu)
      have c0 := hcw 0 _ rfl
      have c1 := hcw 1 _ rfl
      have c2 := hcw 2 _ rfl
      have c3 := hcw 3 _ rfl
      have c4 := hcw 4 _ rfl
      have c5 := hcw 5 _ rfl
      have c6 := hcw 6 _ rfl
      have c7 := hcw 7 _ rfl
      have c8 := hcw 8 _ rfl
      rw [Nat.add_zero] at c0
      have hits := HIT.out l[k] (List.getElem_mem hlt)
      have HTK : Hid (madeB (l.take (k + 1)) = ((madeB (l.take k)).act l[k]).1) := Lib.hid (by rw [List.take_succ_eq_append_getElem hlt, madeB_snoc])
      clear hcw hc
      obtain ⟨x, hx⟩ : ∃ x, x = l[k] := ⟨_, rfl⟩
      rw [← hx] at c0 c1 c2 c3 c4 c5 c6 c7 c8 hits HTK
      clear hx
      obtain ⟨m1, m2, m3⟩ := madeB_ok (l.take k)
      have htk : (l.take k).length ≤ 40 := by rw [List.length_take]; omega
      have HACT := Lib.hid (act_any w.heap.size (madeB (l.take k)) x wr HK.out m1 (by omega) (by omega) (by omega))
      rw [← HTK.out] at HACT
      simp only [ActV.agg] at HACT
      clear m1 m2 m3 htk HTK HK
      generalize hb1 : madeB (l.take (k + 1)) = b1 at HACT
      generalize (((madeB (l.take k)).act x).2) = o1 at HACT
      have HB1 := Lib.hid hb1
      clear hb1
      go_wp2_with fail
      refine HACT.out.mono ?_
      rintro e w4 ⟨rfl, hk4, hc4⟩
      have HK4 := Lib.hid hk4
      have HB4 : Hid (Below w.heap.size w w4) := Lib.hid (chBelow hc4 HBR.out hB)
      clear hk4 hc4
      go_wp2_with fail
      go_roundg (l.length - (k + 1))
      case measure => omega
      case rel => exact ⟨k + 1, hlt, by first | rfl | go_num | (congr 1; omega), Nat.le_refl _, Lib.hid (by rw [HB1.out]; exact HK4.out), HB4⟩
    · have hltz : ¬ (k : Int) < (l.length : Int) := by omega
      have hke : l.take k = l := List.take_of_length_le (by omega)
      go_wp2_with fail
      go_ret
      have h1 := HK.out
      rw [hke] at h1
      exact ⟨rfl, h1, HBR.out⟩
end Go.Proofs.YtpbbbiifeihkaaaGreatDoor
end

/- RmW: ReportMoves: what its walk needs beside the reports' own contracts. -/
section
namespace Go.Proofs.YtpbbbiifeihkaaaGreatDoor
open Go.RowKit
set_option linter.unusedVariables false
set_option linter.unusedSimpArgs false

theorem gr_below {w W : World} (h : Gr w W) : Below w.heap.size w W := by
  obtain ⟨q, os, rfl⟩ := h
  refine ⟨rfl, rfl, rfl, ?_, fun k hk => ?_⟩
  · show w.heap.size ≤ (w.heap ++ os).size
    simp
  · show (w.heap ++ os)[k]? = _
    rw [Array.getElem?_append, if_pos hk]
theorem compareE_any (x y : Evt) (w : World) : Calls Tryz.prog 32 #[x.agg, y.agg] w (Gives (.int .i64 (cfE x y)) w) :=
  (compare_grow x.id x.kind x.qty x.price x.ofn x.day y.id y.kind y.qty y.price y.ofn y.day x.item y.item w).mono fun _ _ ⟨h1, h2⟩ => ⟨h1, gr_below h2⟩
theorem cf_lt {x y : Evt} (h : leE x y = true) (hid : x.id ≠ y.id) : cfE x y < 0 := by
  apply Classical.byContradiction
  intro hn
  have h2 : leE y x = true ∨ ¬ (leE y x = true) := Classical.em _
  rcases h2 with h2 | h2
  · exact hid (leE_anti h h2)
  · have h3 := (leE_iff x y).1 h
    have h4 := (not_congr (leE_iff y x)).1 h2
    simp only [cfE, Ev.cmpE, Ev.or3, Ev.cmpI] at hn
    by_cases h5 : x.day < y.day
    · simp [h5] at hn
    · have e1 : x.day = y.day := by omega
      by_cases h6 : x.kind < y.kind
      · simp [e1, h6] at hn
      · have e2 : x.kind = y.kind := by omega
        have h7 : x.id < y.id := by omega
        simp [e1, e2, h7] at hn
/-- The fourteen cells of the k-th move. -/
theorem mv_at {w : World} {base n : Nat} {v : Value} {L : List Evt} {s : List UInt8} (h : w.ownsRow base 87 14 v n (mvCells L s L.length)) (hn : n = L.length) (k : Nat) (hk : k < L.length) :
    ∃ g cap, v = .slice (some ⟨g, 0, none⟩) n cap ∧ base ≤ g ∧ g < w.heap.size ∧ ∀ W, Below w.heap.size w W → ∀ j u, (mvX L[k] (oneP (endS (L.take k)) L[k]).1 (whatQ (L.take (k + 1)) s).1 (whatQ (L.take (k + 1)) s).2)[j]? = some u → W.cell? ⟨g, k * 14 + j, none⟩ = some u := by
  have hlen : ∀ m, m ≤ L.length → (mvCells L s m).length = m * 14 := by
    intro m
    induction m with
    | zero => intro _; rfl
    | succ m ih =>
      intro hm
      rw [mvCells_succ L s m (by omega), List.length_append, ih (by omega)]
      simp [mvX]; omega
  have hg : ∀ m, m ≤ L.length → k < m → ∀ j, j < 14 → (mvCells L s m)[k * 14 + j]? = (mvX L[k] (oneP (endS (L.take k)) L[k]).1 (whatQ (L.take (k + 1)) s).1 (whatQ (L.take (k + 1)) s).2)[j]? := by
    intro m
    induction m with
    | zero => intro _ h; omega
    | succ m ih =>
      intro hm hkm j hj
      rw [mvCells_succ L s m (by omega)]
      by_cases e : k = m
      · subst e
        rw [List.getElem?_append_right (by rw [hlen _ (by omega)]; omega), hlen _ (by omega)]
        congr 1
        omega
      · rw [List.getElem?_append_left (by rw [hlen _ (by omega)]; omega)]
        exact ih (by omega) (by omega) j hj
  rcases h.2 with ⟨rfl, h0⟩ | ⟨g, cap, cur, rfl, hB, hc, -, -, -, ht⟩
  · omega
  · have hgl : g < w.heap.size := (Array.getElem?_eq_some_iff.1 hc).1
    refine ⟨g, cap, rfl, hB, hgl, fun W hW j u hu => ?_⟩
    have hj : j < 14 := by
      have := (List.getElem?_eq_some_iff.1 hu).1
      simpa [mvX] using this
    rw [hW.cell (p := ⟨g, k * 14 + j, none⟩) hgl]
    simp only [World.cell?, hc]
    rw [← hg L.length (Nat.le_refl _) hk j hj, ← ht, List.getElem?_take_of_lt (by omega), Array.getElem?_toList] at hu
    exact hu
set_option maxHeartbeats 1000000 in
set_option maxRecDepth 100000 in
/-- The law's own closure: whether a holding is of this item. -/
theorem moveIs_any (k : List UInt8) (q v : Int) (A X : Nat) (g o n c i : Nat) (s : ByteArray) (w : World) (hA : w.cell? ⟨A, 0, none⟩ = some (.slice (some ⟨g, o, none⟩) n c)) (hX : w.cell? ⟨X, 0, none⟩ = some (.int .i64 (i : Nat))) (hi : i < n) (hs : w.cell? ⟨g, o + i, none⟩ = some (.string s)) :
    Calls Tryz.prog 34 #[.agg #[.string ⟨k.toArray⟩, .int .i64 q, .int .i64 v], .pointer (some ⟨A, 0, none⟩), .pointer (some ⟨X, 0, none⟩)] w fun x w' => x = .returned (.bool (decide (k = s.data.toList))) ∧ Below w.heap.size w w' := by
  have hAl : A < w.heap.size := cell_lt hA
  have hXl : X < w.heap.size := cell_lt hX
  have hgl : g < w.heap.size := cell_lt hs
  have hiz : (i : Int) < (n : Int) := by omega
  go_enter Tryz.func34, Tryz.ntmps34
  go_wp2_with fail
  have hb := (Below.refl w.heap.size w).new (.cells #[.string ⟨k.toArray⟩, .int .i64 q, .int .i64 v] 74)
  have hN := World.alloc_heap_new w (.cells #[.string ⟨k.toArray⟩, .int .i64 q, .int .i64 v] 74)
  have n0 : (w.alloc (.cells #[.string ⟨k.toArray⟩, .int .i64 q, .int .i64 v] 74)).cell? ⟨w.heap.size, 0, none⟩ = some (.string ⟨k.toArray⟩) := by simp only [World.cell?, hN]; rfl
  have hA2 := (hb.cell (p := ⟨A, 0, none⟩) hAl).trans hA
  have hX2 := (hb.cell (p := ⟨X, 0, none⟩) hXl).trans hX
  have hs2 := (hb.cell (p := ⟨g, o + i, none⟩) hgl).trans hs
  have HB := Lib.hid hb
  clear hN hA hX hs hb
  generalize w.alloc (.cells #[.string ⟨k.toArray⟩, .int .i64 q, .int .i64 v] 74) = W at n0 hA2 hX2 hs2 HB ⊢
  have hAl := cell_lt hA2
  have hXl := cell_lt hX2
  have hgl := cell_lt hs2
  have hnl := cell_lt n0
  generalize w.heap.size = Y at n0 hnl ⊢
  go_quiet (fail)
  go_wp2_with fail
  go_ret
  refine ⟨?_, below_drewN HB.out _⟩
  have e : (k == s.toList) = decide (k = s.data.toList) := by
    rw [ba_list]
    by_cases h : k = s.data.toList
    · simp [h]
    · simp [h]
  exact congrArg (fun b => Ending.returned (.bool b)) e
theorem rdA_below {hi : Nat} {w w' : World} {v : Value} {l : List ActV} (h : RdA hi w v l) (hb : Below w.heap.size w w') (hh : hi ≤ w.heap.size) : RdA hi w' v l := by
  obtain ⟨a, c, e, h⟩ := h
  refine ⟨a, c, e, fun k hk => ?_⟩
  obtain ⟨g, off, e2, h1, h2⟩ := h k hk
  exact ⟨g, off, e2, h1, fun j u hu => (hb.cell (p := ⟨g, off + k * 9 + j, none⟩) (by show g < w.heap.size; omega)).trans (h2 j u hu)⟩
end Go.Proofs.YtpbbbiifeihkaaaGreatDoor
end
