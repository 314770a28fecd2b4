/- Acts on a book: one act, a row of acts, whether they are few. -/
import Derived.Test.YtackpcohmmlkeaaGreatDoorBkV
import Derived.Test.YtackpcohmmlkeaaGreatDoorBkA
namespace Go.Proofs.YtackpcohmmlkeaaGreatDoor
open Go.RowKit
set_option linter.unusedVariables false

structure ActV where
  what : Int
  id : Int
  e : Evt
def ActV.cells (x : ActV) : List Value := [.int .i64 x.what, .int .i64 x.id, .int .i64 x.e.id, .string x.e.item, .int .i64 x.e.kind, .int .i64 x.e.qty, .int .i64 x.e.price, .int .i64 x.e.ofn, .int .i64 x.e.day]
abbrev ActV.agg (x : ActV) : Value := .agg #[.int .i64 x.what, .int .i64 x.id, .int .i64 x.e.id, .string x.e.item, .int .i64 x.e.kind, .int .i64 x.e.qty, .int .i64 x.e.price, .int .i64 x.e.ofn, .int .i64 x.e.day]
/-- Acts, for reading: below a place in the heap that nothing turns. -/
def RdA (hi : Nat) (w : World) (v : Value) (l : List ActV) : Prop := ∃ a c, v = .slice a l.length c ∧ ∀ k (hk : k < l.length), ∃ b off, a = some ⟨b, off, none⟩ ∧ b < hi ∧ ∀ j u, l[k].cells[j]? = some u → w.cell? ⟨b, off + k * 9 + j, none⟩ = some u
def Bk.act (b : Bk) (x : ActV) : Bk × Option Int :=
  if x.what = 0 then ((b.post x.e).1, (b.post x.e).2.2) else if x.what = 1 then b.correct x.id x.e else if x.what = 2 then b.void x.id else (b, some 1)
theorem BkI.act {b : Bk} (h : BkI b) (x : ActV) : BkI (b.act x).1 := by
  unfold Bk.act
  split
  · exact h.post x.e
  · split
    · exact h.correct x.id x.e
    · split
      · exact h.void x.id
      · exact h
set_option maxHeartbeats 2000000 in
set_option maxRecDepth 100000 in
theorem act_any (B : Nat) (b : Bk) (x : ActV) (w : World) (h : BkW w B b) (hI : BkI b) (ht : b.turn ≤ 1000000) (hn : b.next ≤ 1000000) (hs : x.e.item.size ≤ 1000000) :
    Calls Tryz.prog 15 #[.pointer (some ⟨B, 0, none⟩), x.agg] w fun e w' => e = .returned (errB (b.act x).2) ∧ BkW w' B (b.act x).1 ∧ Ch B w w' := by
  have hBl := h.lt
  obtain ⟨wh, id, ⟨i, s, k, q, p, o, d⟩⟩ := x
  simp only [ActV.agg]
  simp only at hs
  have HP := Lib.hid (fun W (hb : Below w.heap.size w W) => post_any B b ⟨i, s, k, q, p, o, d⟩ W (h.below hb) hI ht hn hs)
  have HC := Lib.hid (fun W (hb : Below w.heap.size w W) => correct_any B b id ⟨i, s, k, q, p, o, d⟩ W (h.below hb) hI ht hs)
  have HV := Lib.hid (fun W (hb : Below w.heap.size w W) => void_any B b id W (h.below hb) hI ht)
  have HH := Lib.hid h
  have hb0 := fun o => (Below.refl w.heap.size w).new o
  simp only [Evt.agg] at HP HC
  clear h
  have hb00 := Below.refl w.heap.size w
  by_cases e0 : wh = 0
  · subst e0
    have hp : b.act ⟨0, id, ⟨i, s, k, q, p, o, d⟩⟩ = ((b.post ⟨i, s, k, q, p, o, d⟩).1, (b.post ⟨i, s, k, q, p, o, d⟩).2.2) := rfl
    rw [hp]
    clear hp
    go_enter Tryz.func15, Tryz.ntmps15
    go_wp2_with fail
    refine (HP.out _ (hb0 _)).mono ?_
    rintro e w1 ⟨rfl, hB, hC⟩
    have hC2 := (Ch.of_below (hb0 _) hBl).trans hC
    clear hC
    go_wp2_with fail
    go_ret
    exact ⟨rfl, hB, hC2⟩
  · have f0 : (wh == 0) = false := by simp [e0]
    by_cases e1 : wh = 1
    · subst e1
      have hp : b.act ⟨1, id, ⟨i, s, k, q, p, o, d⟩⟩ = b.correct id ⟨i, s, k, q, p, o, d⟩ := rfl
      rw [hp]
      clear hp e0 f0
      go_enter Tryz.func15, Tryz.ntmps15
      go_wp2_with fail
      refine (HC.out _ (hb0 _)).mono ?_
      rintro e w1 ⟨rfl, hB, hC⟩
      have hC2 := (Ch.of_below (hb0 _) hBl).trans hC
      clear hC
      go_wp2_with fail
      go_ret
      exact ⟨rfl, hB, hC2⟩
    · have f1 : (wh == 1) = false := by simp [e1]
      by_cases e2 : wh = 2
      · subst e2
        have hp : b.act ⟨2, id, ⟨i, s, k, q, p, o, d⟩⟩ = b.void id := rfl
        rw [hp]
        clear hp e0 f0 e1 f1
        go_enter Tryz.func15, Tryz.ntmps15
        go_wp2_with fail
        refine (HV.out _ (hb0 _)).mono ?_
        rintro e w1 ⟨rfl, hB, hC⟩
        have hC2 := (Ch.of_below (hb0 _) hBl).trans hC
        clear hC
        go_wp2_with fail
        go_ret
        exact ⟨rfl, hB, hC2⟩
      · have f2 : (wh == 2) = false := by simp [e2]
        have hp : b.act ⟨wh, id, ⟨i, s, k, q, p, o, d⟩⟩ = (b, some 1) := by simp only [Bk.act, if_neg e0, if_neg e1, if_neg e2]
        rw [hp]
        clear hp e0 e1 e2
        go_enter Tryz.func15, Tryz.ntmps15
        go_wp2_with fail
        go_ret
        exact ⟨rfl, HH.out.below (hb0 _), Ch.of_below (hb0 _) hBl⟩
/-- Few acts, none with a long name. -/
def smallA (l : List ActV) : Bool := decide (l.length ≤ 40) && l.all fun x => decide (x.e.item.size ≤ 60)
set_option maxHeartbeats 2000000 in
set_option maxRecDepth 100000 in
theorem small_any (hi : Nat) (v : Value) (l : List ActV) (w : World) (hr : RdA hi w v l) (hh : hi ≤ w.heap.size) :
    Calls Tryz.prog 14 #[v] w (Gives (.bool (smallA l)) w) := by
  obtain ⟨a, c, rfl, h⟩ := hr
  have HR := Lib.hid h
  clear h
  by_cases hl : l.length ≤ 40
  · have hlz : ¬ (l.length : Int) > 40 := by omega
    have hs0 : smallA l = l.all fun x => decide (x.e.item.size ≤ 60) := by simp [smallA, hl]
    rw [hs0]
    clear hs0
    go_enter Tryz.func14, Tryz.ntmps14
    go_wp2
    go_loopg [3] l.length (fun kx i wr => ∃ k : Nat, k ≤ l.length ∧ i = .int .i64 k ∧ l.length - k ≤ kx ∧ Hid (∀ j (hj : j < k) (h2 : j < l.length), l[j].e.item.size ≤ 60) ∧ Below w.heap.size w wr)
    case atStart => exact ⟨0, by omega, rfl, by omega, fun j hj => absurd hj (by omega), Below.refl _ _⟩
    case round =>
      obtain ⟨k, hk, rfl, hkx, HN, hb⟩ := hrel
      by_cases hlt : k < l.length
      · have hltz : (k : Int) < (l.length : Int) := by omega
        obtain ⟨g, off, rfl, hgl, hc⟩ := HR.out k hlt
        have c3 := (hb.cell (p := ⟨g, off + k * 9 + 3, none⟩) (by show g < w.heap.size; omega)).trans (hc 3 _ rfl)
        obtain ⟨x, hx⟩ : ∃ x, x = l[k] := ⟨_, rfl⟩
        rw [← hx] at c3
        have HX := Lib.hid hx
        clear hc hx
        by_cases h6 : x.e.item.size ≤ 60
        · have h6z : ¬ (x.e.item.size : Int) > 60 := by omega
          go_wp2
          go_roundg (l.length - (k + 1))
          case measure => omega
          case rel =>
            refine ⟨k + 1, hlt, by first | rfl | go_num | (congr 1; omega), Nat.le_refl _, (show Hid _ from fun j hj h2 => ?_), hb⟩
            by_cases hjk : j = k
            · subst hjk; rw [← HX.out]; exact h6
            · exact HN.out j (by omega) h2
        · have h6z : (x.e.item.size : Int) > 60 := by omega
          have hf : (l.all fun x => decide (x.e.item.size ≤ 60)) = false := by
            rw [List.all_eq_false]
            exact ⟨x, by rw [HX.out]; exact List.getElem_mem hlt, by simpa using h6⟩
          go_wp2
          (try simp only [Exit.inBlock, Exit.then])
          refine bodyPost_ret (results_tmp rfl _ _ _) rfl ?_
          refine ⟨?_, hb⟩
          first | rfl | (rw [hf]; rfl)
      · have hltz : ¬ (k : Int) < (l.length : Int) := by omega
        have hf : (l.all fun x => decide (x.e.item.size ≤ 60)) = true := by
          rw [List.all_eq_true]
          intro x hx
          obtain ⟨j, hj, rfl⟩ := List.getElem_of_mem hx
          simpa using HN.out j (by omega) hj
        go_wp2
        go_ret
        refine ⟨?_, hb⟩
        first | rfl | (rw [hf]; rfl)
  · have hlz : (l.length : Int) > 40 := by omega
    have hs0 : smallA l = false := by simp [smallA, hl]
    rw [hs0]
    go_enter Tryz.func14, Tryz.ntmps14
    go_wp2
    go_ret
    exact ⟨rfl, Below.refl _ _⟩
end Go.Proofs.YtackpcohmmlkeaaGreatDoor
