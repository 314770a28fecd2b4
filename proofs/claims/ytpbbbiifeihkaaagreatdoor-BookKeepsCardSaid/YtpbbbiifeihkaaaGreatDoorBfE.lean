/- tallymanlaw's short and sameEvents; a new book of each kind. -/
import Derived.Test.YtpbbbiifeihkaaaGreatDoorBfD
import Derived.Test.YtpbbbiifeihkaaaGreatDoorEvQ
import Derived.Test.YtpbbbiifeihkaaaGreatDoorBkQ
import Derived.Deep.QuietTactic
import Derived.BigQuiet
import Derived.LoopTactic
namespace Go.Proofs.YtpbbbiifeihkaaaGreatDoor
open Go.RowKit
open Go.Maps (Keyed)
set_option linter.unusedVariables false

theorem next_actF (b : Bk) (x : ActV) : (b.act x).1.next ≤ b.next + 1 := by
  have hp : (b.post x.e).1.next ≤ b.next + 1 := by
    unfold Bk.post
    split
    · split
      · (show b.next ≤ b.next + 1; omega)
      · exact Int.le_refl _
    · (show b.next ≤ b.next + 1; omega)
  have hc : (b.correct x.id x.e).1.next ≤ b.next + 1 := by
    unfold Bk.correct
    split
    · (show b.next ≤ b.next + 1; omega)
    · split
      · split
        · (show b.next ≤ b.next + 1; omega)
        · simp only; omega
      · (show b.next ≤ b.next + 1; omega)
  have hv : (b.void x.id).1.next ≤ b.next + 1 := by
    unfold Bk.void
    split
    · (show b.next ≤ b.next + 1; omega)
    · simp only; omega
  unfold Bk.act
  split
  · exact hp
  · split
    · exact hc
    · split
      · exact hv
      · simp only; omega
abbrev bookObF : Obj := .cells #[.slice none 0 0, .int .i64 0, .int .i64 0] 44
theorem bkW_newF (w : World) : BkW (w.alloc bookObF) w.heap.size bk0 := by
  have hn := World.alloc_heap_new w bookObF
  have hc : ∀ j u, #[Value.slice none 0 0, .int .i64 0, .int .i64 0][j]? = some u → (w.alloc bookObF).cell? ⟨w.heap.size, j, none⟩ = some u := fun j u hu => by simp only [World.cell?, hn]; exact hu
  exact ⟨hc 1 _ rfl, hc 2 _ rfl, fun j => World.frozen?_alloc_new w _ _ _, ⟨_, hc 0 _ rfl, World.ownsRow_nil _ _ _ _⟩, ⟨_, _, _, hn, by decide⟩⟩
theorem Lo.mono {B B' : Nat} {w w' : World} (h : Lo B w w') (hB : B' ≤ B) : Lo B' w w' := ⟨h.os, h.tape, h.output, h.size, fun k hk => h.low k (by omega)⟩
theorem as_len {b : Bk} (hI : BkI b) (z : Int) : (b.as z).length ≤ 1000 := by
  have h1 : (b.as z).length = ((b.l.filter (knownAt (b.at z))).map Ver.ev).length := (isort_perm _).length_eq
  have h2 := List.length_filter_le (knownAt (b.at z)) b.l
  have h3 := hI.len
  rw [h1, List.length_map]
  omega
abbrev fbookOb : Obj := .cells #[.slice none 0 0, .int .i64 0, .int .i64 0] 48
theorem fw_new (w : World) : FW (w.alloc fbookOb) w.heap.size bk0 := ⟨none, 0, World.alloc_heap_new w fbookOb, World.ownsRow_nil _ _ _ _⟩
/-- Few acts, none with a long name. -/
def shortA (l : List ActV) : Bool := decide (l.length ≤ 140) && l.all fun x => decide (x.e.item.size ≤ 60)
set_option maxHeartbeats 2000000 in
set_option maxRecDepth 100000 in
theorem short_any (hi : Nat) (v : Value) (l : List ActV) (w : World) (hr : RdA hi w v l) (hh : hi ≤ w.heap.size) :
    Calls Tryz.prog 12 #[v] w (Gives (.bool (shortA l)) w) := by
  obtain ⟨a, c, rfl, h⟩ := hr
  have HR := Lib.hid h
  clear h
  by_cases hl : l.length ≤ 140
  · have hlz : ¬ (l.length : Int) > 140 := by omega
    have hs0 : shortA l = l.all fun x => decide (x.e.item.size ≤ 60) := by simp [shortA, hl]
    rw [hs0]
    clear hs0
    go_enter Tryz.func12, Tryz.ntmps12
    go_wp2
    go_loopg [3] l.length (fun kx i wr => ∃ k : Nat, k ≤ l.length ∧ i = .int .i64 k ∧ l.length - k ≤ kx ∧ Hid (∀ j (hj : j < k) (h2 : j < l.length), l[j].e.item.size ≤ 60) ∧ Below w.heap.size w wr)
    case atStart => exact ⟨0, by omega, rfl, by omega, fun j hj => absurd hj (by omega), Below.refl _ _⟩
    case round =>
      obtain ⟨k, hk, rfl, hkx, HN, hb⟩ := hrel
      by_cases hlt : k < l.length
      · have hltz : (k : Int) < (l.length : Int) := by omega
        obtain ⟨g, off, rfl, hgl, hc⟩ := HR.out k hlt
        have c3 := (hb.cell (p := ⟨g, off + k * 9 + 3, none⟩) (by show g < w.heap.size; omega)).trans (hc 3 _ rfl)
        obtain ⟨x, hx⟩ : ∃ x, x = l[k] := ⟨_, rfl⟩
        rw [← hx] at c3
        have HX := Lib.hid hx
        clear hc hx
        by_cases h6 : x.e.item.size ≤ 60
        · have h6z : ¬ (x.e.item.size : Int) > 60 := by omega
          go_wp2
          go_roundg (l.length - (k + 1))
          case measure => omega
          case rel =>
            refine ⟨k + 1, hlt, by first | rfl | go_num | (congr 1; omega), Nat.le_refl _, (show Hid _ from fun j hj h2 => ?_), hb⟩
            by_cases hjk : j = k
            · subst hjk; rw [← HX.out]; exact h6
            · exact HN.out j (by omega) h2
        · have h6z : (x.e.item.size : Int) > 60 := by omega
          have hf : (l.all fun x => decide (x.e.item.size ≤ 60)) = false := by
            rw [List.all_eq_false]
            exact ⟨x, by rw [HX.out]; exact List.getElem_mem hlt, by simpa using h6⟩
          go_wp2
          (try simp only [Exit.inBlock, Exit.then])
          refine bodyPost_ret (results_tmp rfl _ _ _) rfl ?_
          refine ⟨?_, hb⟩
          first | rfl | (rw [hf]; rfl)
      · have hltz : ¬ (k : Int) < (l.length : Int) := by omega
        have hf : (l.all fun x => decide (x.e.item.size ≤ 60)) = true := by
          rw [List.all_eq_true]
          intro x hx
          obtain ⟨j, hj, rfl⟩ := List.getElem_of_mem hx
          simpa using HN.out j (by omega) hj
        go_wp2
        go_ret
        refine ⟨?_, hb⟩
        first | rfl | (rw [hf]; rfl)
  · have hlz : (l.length : Int) > 140 := by omega
    have hs0 : shortA l = false := by simp [shortA, hl]
    rw [hs0]
    go_enter Tryz.func12, Tryz.ntmps12
    go_wp2
    go_ret
    exact ⟨rfl, Below.refl _ _⟩
set_option maxHeartbeats 2000000 in
set_option maxRecDepth 100000 in
theorem sameEvents_any (hi : Nat) (es : List Evt) (v1 v2 : Value) (w : World) (hL : es.length ≤ 1000) (hh : hi ≤ w.heap.size) (h1 : RdE hi w v1 es) (h2 : RdE hi w v2 es) :
    Calls Tryz.prog 17 #[v1, v2] w (Gives (.bool true) w) := by
  obtain ⟨a, c1, rfl⟩ := h1.shape
  obtain ⟨b, c2, rfl⟩ := h2.shape
  have H1 := Lib.hid h1
  have H2 := Lib.hid h2
  clear h1 h2
  have hne : ((es.length : Int) != (es.length : Int)) = false := by simp
  go_enter Tryz.func17, Tryz.ntmps17
  go_wp2
  go_loopw [5] (fun i wr => ∃ k q : Nat, k ≤ es.length ∧ i = .int .i64 k ∧ wr = w.drewN q) (fun i _ => es.length - (intOf i).toNat)
  case atStart => exact ⟨0, 0, by omega, rfl, rfl⟩
  case round =>
    obtain ⟨k, q, hk, rfl, rfl⟩ := hrel
    by_cases hlt : k < es.length
    · obtain ⟨b1, o1, rfl, hl1, hc1⟩ := H1.out.seven k hlt
      obtain ⟨b2, o2, rfl, hl2, hc2⟩ := H2.out.seven k hlt
      obtain ⟨p0, p1, p2, p3, p4, p5, p6⟩ := hc1 w (Below.refl _ _)
      obtain ⟨q0, q1, q2, q3, q4, q5, q6⟩ := hc2 w (Below.refl _ _)
      obtain ⟨x, hx⟩ : ∃ x, x = es[k] := ⟨_, rfl⟩
      rw [← hx] at p0 p1 p2 p3 p4 p5 p6 q0 q1 q2 q3 q4 q5 q6
      clear hx hc1 hc2
      have hs := ev_same x.id x.kind x.qty x.price x.ofn x.day x.item
      go_wp2
      go_quiet (fail)
      go_wp2
      go_roundw
      case rel => exact ⟨k + 1, _, by omega, by go_num, rfl⟩
      case measure => simp [intOf]; omega
    · go_wp2
      go_ret
      exact ⟨rfl, below_drewN (Below.refl _ _) q⟩
end Go.Proofs.YtpbbbiifeihkaaaGreatDoor
