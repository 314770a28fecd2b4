/- Joined: PdM, PdW, PdC, PdO. -/
import Derived.Test.YtackpcohmmlkeaaGreatDoorPrN
import Derived.Test.YtackpcohmmlkeaaGreatDoorBkQ
import Derived.Test.YtackpcohmmlkeaaGreatDoorBkN
import Derived.Test.YtackpcohmmlkeaaGreatDoorPrA
import Derived.Test.YtackpcohmmlkeaaGreatDoorKh
import Derived.Test.YtackpcohmmlkeaaGreatDoorPrC
import Derived.Test.YtackpcohmmlkeaaGreatDoorDayI
import Derived.Deep.RegionHeld

/- PdM: Closes, one behind the other, plainly. -/
section
namespace Go.Proofs.YtackpcohmmlkeaaGreatDoor
open Go.RowKit
set_option linter.unusedVariables false

/-- A close. -/
structure Cl where
  mo : Int
  turn : Int
  f : Fg
/-- Closes, and what they come to. -/
structure Pd where
  l : List Cl
  sum : Fg
def pd0 : Pd := ⟨[], fg0⟩
def Pd.last (p : Pd) : Int := match p.l.getLast? with
  | none => -1
  | some c => c.mo
noncomputable def Pd.close (p : Pd) (b : Bk) (m : Int) : Pd × Fg × Option Int :=
  if m < 0 ∨ 3300 ≤ m then (p, fg0, some 1) else if m ≤ p.last then (p, fg0, some 10) else if p.l.length = 60 then (p, fg0, some 12) else
    (⟨p.l ++ [⟨m, b.turn, (allF (b.as (-1)) m).minus p.sum⟩], allF (b.as (-1)) m⟩, (allF (b.as (-1)) m).minus p.sum, none)
noncomputable def Pd.opn (p : Pd) (b : Bk) : Fg := (allF (b.as (-1)) 3300).minus p.sum
def sumC (l : List Cl) : Fg := l.foldl (fun f c => f.plus c.f) fg0
theorem sumC_snoc (l : List Cl) (c : Cl) : sumC (l ++ [c]) = (sumC l).plus c.f := by simp [sumC]
theorem Pd.last_snoc (l : List Cl) (c : Cl) (f : Fg) : (⟨l ++ [c], f⟩ : Pd).last = c.mo := by unfold Pd.last; simp
/-- What holds of closes. -/
structure PdI (b : Bk) (p : Pd) : Prop where
  ord : p.l.Pairwise fun a c => a.mo < c.mo ∧ a.turn ≤ c.turn
  mem : ∀ c ∈ p.l, 0 ≤ c.mo ∧ c.mo < 3300 ∧ 0 ≤ c.turn ∧ c.turn ≤ b.turn
  sum : p.sum = sumC p.l
  pre : ∀ k (hk : k < p.l.length), sumC (p.l.take (k + 1)) = allF (b.as p.l[k].turn) p.l[k].mo
  len : p.l.length ≤ 60
theorem pdI0 (b : Bk) : PdI b pd0 := ⟨List.Pairwise.nil, fun c hc => (by cases hc), rfl, fun k hk => absurd hk (Nat.not_lt_zero _), Nat.zero_le _⟩
theorem PdI.act {b : Bk} {p : Pd} (h : PdI b p) (x : ActV) : PdI (b.act x).1 p := by
  have ht : b.turn ≤ (b.act x).1.turn := by
    rcases act_turn b x with ⟨-, h⟩ | ⟨-, h⟩
    · omega
    · rw [h]; exact Int.le_refl _
  refine ⟨h.ord, fun c hc => ?_, h.sum, fun k hk => ?_, h.len⟩
  · obtain ⟨h1, h2, h3, h4⟩ := h.mem c hc
    exact ⟨h1, h2, h3, by omega⟩
  · obtain ⟨h1, h2, h3, h4⟩ := h.mem _ (List.getElem_mem hk)
    rw [act_as b x _ h3 h4]
    exact h.pre k hk
theorem Pd.last_cases (p : Pd) : (p.l = [] ∧ p.last = -1) ∨ ∃ a c, p.l = a ++ [c] ∧ p.last = c.mo := by
  unfold Pd.last
  cases h : p.l.getLast? with
  | none => exact .inl ⟨List.getLast?_eq_none_iff.1 h, rfl⟩
  | some c =>
    obtain ⟨a, ha⟩ := List.getLast?_eq_some_iff.1 h
    exact .inr ⟨a, c, ha, rfl⟩
theorem Pd.last_ge {b : Bk} {p : Pd} (h : PdI b p) : ∀ c ∈ p.l, c.mo ≤ p.last := by
  intro c hc
  rcases p.last_cases with ⟨h0, -⟩ | ⟨a, d, h0, h1⟩
  · rw [h0] at hc; cases hc
  · rw [h1]
    rw [h0] at hc
    rcases List.mem_append.1 hc with hc | hc
    · have := h.ord
      rw [h0] at this
      exact Int.le_of_lt ((List.pairwise_append.1 this).2.2 c hc d (by simp)).1
    · rw [List.mem_singleton.1 hc]
      exact Int.le_refl _
theorem PdI.close {b : Bk} {p : Pd} (h : PdI b p) (hb : BkI b) (m : Int) : PdI b (p.close b m).1 := by
  unfold Pd.close
  split
  · exact h
  split
  · exact h
  split
  · exact h
  rename_i h1 h2 h3
  have hl := h.len
  have ht := hb.turn0
  refine ⟨?_, ?_, ?_, ?_, ?_⟩
  · refine List.pairwise_append.2 ⟨h.ord, List.pairwise_singleton _ _, fun a ha c hc => ?_⟩
    rw [List.mem_singleton.1 hc]
    have := Pd.last_ge h a ha
    have := (h.mem a ha).2.2.2
    exact ⟨by show a.mo < m; omega, this⟩
  · intro c hc
    rcases List.mem_append.1 hc with hc | hc
    · exact h.mem c hc
    · rw [List.mem_singleton.1 hc]
      exact ⟨by show 0 ≤ m; omega, by show m < 3300; omega, ht, Int.le_refl _⟩
  · show _ = sumC (p.l ++ _)
    rw [sumC_snoc, ← h.sum]
    exact (Fg.minus_plus _ _).symm
  · intro k hk
    simp only [List.length_append, List.length_singleton] at hk
    by_cases hkl : k < p.l.length
    · simp only [List.getElem_append_left hkl]
      rw [List.take_append_of_le_length (by omega)]
      exact h.pre k hkl
    · have hke : k = p.l.length := by omega
      subst hke
      simp only [List.getElem_concat_length]
      rw [List.take_of_length_le (by simp), sumC_snoc, ← h.sum, ← as_last b ht]
      exact Fg.minus_plus _ _
  · simp only [List.length_append, List.length_singleton]
    omega
theorem PdI.sum_le {b : Bk} {p : Pd} (h : PdI b p) (hb : BkI b) (k : Nat) : (sumC (p.l.take k)).le 280000000000000000 := by
  by_cases h0 : p.l.take k = []
  · rw [h0]; exact fg0_le (by omega)
  · have hk : ∃ j, ∃ hj : j < p.l.length, p.l.take k = p.l.take (j + 1) := by
      have hp : 0 < k ∧ 0 < p.l.length := by
        constructor
        · rcases Nat.eq_zero_or_pos k with h | h
          · subst h; exact absurd rfl h0
          · exact h
        · rcases Nat.eq_zero_or_pos p.l.length with h | h
          · rw [List.length_eq_zero_iff.1 h] at h0; simp at h0
          · exact h
      by_cases hkl : k ≤ p.l.length
      · exact ⟨k - 1, by omega, by rw [show k - 1 + 1 = k by omega]⟩
      · exact ⟨p.l.length - 1, by omega, by rw [show p.l.length - 1 + 1 = p.l.length by omega, List.take_of_length_le (by omega), List.take_length]⟩
    obtain ⟨j, hj, e⟩ := hk
    rw [e, h.pre j hj]
    exact allF_le _ _ (by have := as_le hb p.l[j].turn; omega)
theorem PdI.total_le {b : Bk} {p : Pd} (h : PdI b p) (hb : BkI b) : p.sum.le 280000000000000000 := by
  have := h.sum_le hb p.l.length
  rwa [List.take_length, ← h.sum] at this
theorem PdI.opn_le {b : Bk} {p : Pd} (h : PdI b p) (hb : BkI b) : (p.opn b).le 560000000000000000 := by
  have h1 := allF_le (b.as (-1)) 3300 (by have := as_le hb (-1); omega)
  exact Fg.le_mono (Fg.le_minus h1 (h.total_le hb)) (by omega)
theorem sumC_take (l : List Cl) (k : Nat) (hk : k < l.length) : sumC (l.take (k + 1)) = (sumC (l.take k)).plus l[k].f := by
  rw [List.take_succ_eq_append_getElem hk, sumC_snoc]
theorem Fg.sub_le {a b : Fg} {A B : Int} (h : (a.plus b).le B) (k : a.le A) : b.le (A + B) := by
  obtain ⟨⟨h1, h2⟩, ⟨h3, h4⟩, ⟨h5, h6⟩, ⟨h7, h8⟩, h9, h10⟩ := h
  obtain ⟨⟨k1, k2⟩, ⟨k3, k4⟩, ⟨k5, k6⟩, ⟨k7, k8⟩, k9, k10⟩ := k
  unfold Fg.plus at *
  unfold Fg.le
  simp only at *
  omega
theorem PdI.posted_le {b : Bk} {p : Pd} (h : PdI b p) (hb : BkI b) (k : Nat) (hk : k < p.l.length) : (p.l[k].f).le 560000000000000000 := by
  have h1 := h.sum_le hb (k + 1)
  rw [sumC_take _ _ hk] at h1
  exact Fg.le_mono (Fg.sub_le h1 (h.sum_le hb k)) (by omega)
end Go.Proofs.YtackpcohmmlkeaaGreatDoor
end

/- PdW: Closes in memory: their row, what they come to; what a call on them may turn. -/
section
namespace Go.Proofs.YtackpcohmmlkeaaGreatDoor
open Go.RowKit
set_option linter.unusedVariables false

theorem info_cl : (Tryz.prog.info? 57).map (fun i => (i.zero, i.size, i.bytes)) = some (some (.agg #[.int .i64 0, .int .i64 0, .int .i64 0, .int .i64 0, .int .i64 0, .int .i64 0, .int .i64 0]), 7, 56) := by kernel_rfl
def Cl.cells (c : Cl) : List Value := .int .i64 c.mo :: .int .i64 c.turn :: c.f.cells
abbrev Cl.agg (c : Cl) : Value := .agg #[.int .i64 c.mo, .int .i64 c.turn, .int .i64 c.f.i, .int .i64 c.f.o, .int .i64 c.f.l, .int .i64 c.f.g, .int .i64 c.f.t]
theorem cl_len (c : Cl) : c.cells.length = 7 := rfl
theorem one_cl (c : Cl) : ∀ u ∈ c.cells, u.oneCell' = true := by
  intro u hu
  simp only [Cl.cells, Fg.cells, List.mem_cons, List.not_mem_nil, or_false] at hu
  rcases hu with rfl | rfl | rfl | rfl | rfl | rfl | rfl <;> rfl
abbrev flC (l : List Cl) : List Value := flK Cl.cells l
/-- Closes at block B, from cell O on. -/
structure PW (w : World) (B O : Nat) (p : Pd) : Prop where
  cs : ∀ j u, p.sum.cells[j]? = some u → w.cell? ⟨B, O + 1 + j, none⟩ = some u
  fz : ∀ j, w.frozen? ⟨B, j, none⟩ = false
  row : ∃ v, w.cell? ⟨B, O, none⟩ = some v ∧ w.ownsRow (B + 1) 57 7 v p.l.length (flC p.l)
  nt : ∃ cur t fz, w.heap[B]? = some (.cells cur t fz) ∧ t ≠ 114
/-- What a call on them may turn: their six cells, and new blocks. -/
structure Cp (B O : Nat) (w w' : World) : Prop where
  os : w'.os = w.os
  tape : w'.tape = w.tape
  output : w'.output = w.output
  size : w.heap.size ≤ w'.heap.size
  block : ∀ k, k < w.heap.size → k ≠ B → w'.heap[k]? = w.heap[k]?
  far : ∀ o, o < O ∨ O + 6 ≤ o → w'.cell? ⟨B, o, none⟩ = w.cell? ⟨B, o, none⟩
  frz : ∀ o, w'.frozen? ⟨B, o, none⟩ = w.frozen? ⟨B, o, none⟩
  ty : ∀ cur t fz, w.heap[B]? = some (.cells cur t fz) → ∃ cur', w'.heap[B]? = some (.cells cur' t fz)
theorem Cp.of_below {B O : Nat} {w w' : World} (h : Below w.heap.size w w') (hB : B < w.heap.size) : Cp B O w w' :=
  ⟨h.os, h.tape, h.output, h.size, fun k hk _ => h.block k hk, fun o _ => h.cell (p := ⟨B, o, none⟩) hB, fun o => h.frozen (p := ⟨B, o, none⟩) hB, fun cur t fz he => ⟨cur, (h.block B hB).trans he⟩⟩
theorem Cp.refl (B O : Nat) (w : World) : Cp B O w w := ⟨rfl, rfl, rfl, Nat.le_refl _, fun _ _ _ => rfl, fun _ _ => rfl, fun _ => rfl, fun cur t fz h => ⟨cur, h⟩⟩
theorem Cp.trans {B O : Nat} {a b c : World} (h : Cp B O a b) (k : Cp B O b c) : Cp B O a c :=
  ⟨k.os.trans h.os, k.tape.trans h.tape, k.output.trans h.output, Nat.le_trans h.size k.size, fun i h1 h2 => (k.block i (Nat.lt_of_lt_of_le h1 h.size) h2).trans (h.block i h1 h2), fun o ho => (k.far o ho).trans (h.far o ho), fun o => (k.frz o).trans (h.frz o), fun cur t fz e => by
    obtain ⟨c1, e1⟩ := h.ty cur t fz e
    exact k.ty c1 t fz e1⟩
/-- A store into their cells. -/
theorem Cp.set {B O j : Nat} {a b : World} (h : Cp B O a b) (u : Value) (hj : O ≤ j ∧ j < O + 6) : Cp B O a (b.setCell ⟨B, j, none⟩ u) := by
  refine h.trans ⟨rfl, rfl, rfl, by simp, fun k hk hne => ?_, fun o ho => ?_, fun o => by simp, fun cur t fz e => ⟨_, mid_self u e⟩⟩
  · exact (setCells_gb B [u] j b).block k hk (fun e => by injection e with e; exact hne e)
  · have : j ≠ o := by omega
    exact World.cell?_setCells_out B [u] j b ⟨B, o, none⟩ (fun _ _ => by simp; omega)
theorem PW.lt {w : World} {B O : Nat} {p : Pd} (h : PW w B O p) : B < w.heap.size := by
  obtain ⟨cur, t, fz, e, -⟩ := h.nt
  exact (Array.getElem?_eq_some_iff.1 e).1
theorem PW.below {w w' : World} {B O : Nat} {p : Pd} (h : PW w B O p) (hb : Below w.heap.size w w') : PW w' B O p := by
  have hl := h.lt
  obtain ⟨v, h1, h2⟩ := h.row
  refine ⟨fun j u hu => (hb.cell (p := ⟨B, O + 1 + j, none⟩) hl).trans (h.cs j u hu), fun j => (hb.frozen (p := ⟨B, j, none⟩) hl).trans (h.fz j), ⟨v, (hb.cell (p := ⟨B, O, none⟩) hl).trans h1, own_below h2 hb⟩, ?_⟩
  obtain ⟨cur, t, fz, e1, e2⟩ := h.nt
  exact ⟨cur, t, fz, (hb.block B hl).trans e1, e2⟩
/-- The book elsewhere was called. -/
theorem PW.ch {w w' : World} {B O Bb : Nat} {p : Pd} (h : PW w B O p) (hc : Ch Bb w w') (hB : Bb < B) : PW w' B O p := by
  obtain ⟨cur, t, fz, e1, e2⟩ := h.nt
  have hb := hc.block B _ e1 (by omega) (fun cu f e => by injection e with _ e; exact e2 e)
  have hcell : ∀ j, w'.cell? ⟨B, j, none⟩ = w.cell? ⟨B, j, none⟩ := fun j => by simp only [World.cell?, hb, e1]
  obtain ⟨v, h1, h2⟩ := h.row
  refine ⟨fun j u hu => (hcell _).trans (h.cs j u hu), fun j => ?_, ⟨v, (hcell _).trans h1, Ch.own h2 hc (by omega) (by decide)⟩, ⟨cur, t, fz, hb, e2⟩⟩
  have := h.fz j
  simp only [World.frozen?, hb, e1] at this ⊢
  exact this
/-- The book in the same block was called. -/
theorem PW.chSame {w w' : World} {B O : Nat} {b' : Bk} {p : Pd} (h : PW w B O p) (hc : Ch B w w') (hk : BkW w' B b') (hO : 3 ≤ O) : PW w' B O p := by
  obtain ⟨v, h1, h2⟩ := h.row
  exact ⟨fun j u hu => (hc.far _ (by omega)).trans (h.cs j u hu), fun j => (hc.frz j).trans (h.fz j), ⟨v, (hc.far _ (by omega)).trans h1, Ch.own h2 hc (by omega) (by decide)⟩, hk.nt⟩
/-- The book, where closes were called. -/
theorem BkW.cp {w w' : World} {B Bp O : Nat} {b : Bk} (h : BkW w B b) (hc : Cp Bp O w w') (hp : ∃ cur t fz, w.heap[Bp]? = some (.cells cur t fz) ∧ t ≠ 114) (hO : B = Bp → 3 ≤ O) : BkW w' B b := by
  have hl := h.lt
  have hcell : ∀ j, j < 3 → w'.cell? ⟨B, j, none⟩ = w.cell? ⟨B, j, none⟩ := fun j hj => by
    by_cases e : B = Bp
    · subst e
      exact hc.far j (.inl (by have := hO rfl; omega))
    · simp only [World.cell?, hc.block B hl e]
  obtain ⟨v, h1, h2⟩ := h.row
  refine ⟨(hcell 1 (by omega)).trans h.c1, (hcell 2 (by omega)).trans h.c2, fun j => ?_, ⟨v, (hcell 0 (by omega)).trans h1, h2.1, ?_⟩, ?_⟩
  · by_cases e : B = Bp
    · subst e
      exact (hc.frz j).trans (h.fz j)
    · have := h.fz j
      simp only [World.frozen?, hc.block B hl e] at this ⊢
      exact this
  · rcases h2.2 with h0 | ⟨g, cap, cur, e1, hg, hcu, h4⟩
    · exact .inl h0
    · refine .inr ⟨g, cap, cur, e1, hg, (hc.block g (Array.getElem?_eq_some_iff.1 hcu).1 (fun e => ?_)).trans hcu, h4⟩
      obtain ⟨cu, t, fz, e2, e3⟩ := hp
      rw [← e, hcu] at e2
      injection e2 with e2
      injection e2 with _ e2
      exact e3 e2.symm
  · obtain ⟨cur, t, fz, e1, e2⟩ := h.nt
    by_cases e : B = Bp
    · subst e
      obtain ⟨cur', e3⟩ := hc.ty cur t fz e1
      exact ⟨cur', t, fz, e3, e2⟩
    · exact ⟨cur, t, fz, (hc.block B hl e).trans e1, e2⟩
theorem cpBelow {H B O : Nat} {w0 w w' : World} (hc : Cp B O w w') (h : Below H w0 w) (hB : H ≤ B) (hH : H ≤ w.heap.size) : Below H w0 w' :=
  h.trans ⟨hc.os, hc.tape, hc.output, hc.size, fun k hk => hc.block k (by omega) (by omega)⟩
/-- A close's cells, read out of their row. -/
theorem own_cl {w : World} {base n : Nat} {xa : Option Addr} {xc : Nat} {ls : List Cl} (h : w.ownsRow base 57 7 (.slice xa n xc) n (flC ls)) (k : Nat) (hk : k < ls.length) : ∃ b, xa = some ⟨b, 0, none⟩ ∧ base ≤ b ∧ b < w.heap.size ∧ ∀ W, Below w.heap.size w W →
    W.cell? ⟨b, k * 7, none⟩ = some (.int .i64 ls[k].mo) ∧ W.cell? ⟨b, k * 7 + 1, none⟩ = some (.int .i64 ls[k].turn) ∧ W.cell? ⟨b, k * 7 + 2, none⟩ = some (.int .i64 ls[k].f.i) ∧ W.cell? ⟨b, k * 7 + 3, none⟩ = some (.int .i64 ls[k].f.o) ∧ W.cell? ⟨b, k * 7 + 4, none⟩ = some (.int .i64 ls[k].f.l) ∧ W.cell? ⟨b, k * 7 + 5, none⟩ = some (.int .i64 ls[k].f.g) ∧ W.cell? ⟨b, k * 7 + 6, none⟩ = some (.int .i64 ls[k].f.t) := by
  have hg : ∀ j, j < 7 → (flC ls)[k * 7 + j]? = (ls[k].cells)[j]? := flK_get cl_len ls k hk
  have hl := flK_len cl_len ls
  have hn := h.1
  rw [show (flC ls).length = ls.length * 7 from hl] at hn
  rcases h.2 with ⟨hv, h0⟩ | ⟨g, cap, cur, hv, hb, hc, hnc, hm, hs, ht⟩
  · omega
  · injection hv with e1 e2 e3
    subst e1
    refine ⟨g, rfl, hb, (Array.getElem?_eq_some_iff.1 hc).1, fun W hW => ?_⟩
    have hcl : ∀ j, j < 7 → W.cell? ⟨g, k * 7 + j, none⟩ = (ls[k].cells)[j]? := by
      intro j hj
      rw [hW.cell (p := ⟨g, k * 7 + j, none⟩) (Array.getElem?_eq_some_iff.1 hc).1, ← hg j hj, ← ht, List.getElem?_take_of_lt (by omega)]
      simp [World.cell?, hc]
    exact ⟨hcl 0 (by omega), hcl 1 (by omega), hcl 2 (by omega), hcl 3 (by omega), hcl 4 (by omega), hcl 5 (by omega), hcl 6 (by omega)⟩
end Go.Proofs.YtackpcohmmlkeaaGreatDoor
end

/- PdC: Calls on closes: last, Closed, Late, Open. -/
section
namespace Go.Proofs.YtackpcohmmlkeaaGreatDoor
open Go.RowKit
set_option linter.unusedVariables false
set_option linter.unusedSimpArgs false

theorem day_bd {e : Evt} (h : e.right = true) : 0 ≤ e.day ∧ e.day ≤ 99999 := by
  obtain ⟨-, h1, h2, -⟩ : Ev.RightP _ _ _ _ _ _ := of_decide_eq_true h
  exact ⟨h1, h2⟩
theorem PW.cells {w : World} {B O : Nat} {p : Pd} (h : PW w B O p) : w.cell? ⟨B, O + 1, none⟩ = some (.int .i64 p.sum.i) ∧ w.cell? ⟨B, O + 2, none⟩ = some (.int .i64 p.sum.o) ∧ w.cell? ⟨B, O + 3, none⟩ = some (.int .i64 p.sum.l) ∧ w.cell? ⟨B, O + 4, none⟩ = some (.int .i64 p.sum.g) ∧ w.cell? ⟨B, O + 5, none⟩ = some (.int .i64 p.sum.t) :=
  ⟨h.cs 0 _ rfl, h.cs 1 _ rfl, h.cs 2 _ rfl, h.cs 3 _ rfl, h.cs 4 _ rfl⟩
set_option maxHeartbeats 4000000 in
set_option maxRecDepth 100000 in
theorem plast_any (B O : Nat) (p : Pd) (w : World) (h : PW w B O p) (hl : p.l.length ≤ 1000) :
    Calls Tryz.prog 47 #[.pointer (some ⟨B, O, none⟩)] w fun e w' => e = .returned (.int .i64 p.last) ∧ Below w.heap.size w w' := by
  obtain ⟨v, c0, ho⟩ := h.row
  obtain ⟨xa, xc, rfl⟩ := own_slice ho
  have hB := h.lt
  rcases p.last_cases with ⟨h0, h1⟩ | ⟨a, c, h0, h1⟩
  · rw [h1]
    rw [h0] at c0
    simp only [List.length_nil] at c0
    go_enter Tryz.func47, Tryz.ntmps47
    go_wp2_with fail
    go_ret
    exact ⟨rfl, Below.refl _ _⟩
  · rw [h1]
    have hn : p.l.length = a.length + 1 := by rw [h0]; simp
    obtain ⟨g, hg1, hg2, hg3, hgc⟩ := own_cl ho a.length (by omega)
    subst hg1
    obtain ⟨g0, -⟩ := hgc w (Below.refl _ _)
    have hq : p.l[a.length]'(by omega) = c := by simp [h0]
    rw [hq] at g0
    rw [hn] at c0
    have hz : ((a.length + 1 : Nat) : Int) - 1 = a.length := by omega
    have hn0 : (((a.length + 1 : Nat) : Int) == 0) = false := by simp; omega
    have hal : a.length < a.length + 1 := by omega
    clear hgc ho h h0
    go_enter Tryz.func47, Tryz.ntmps47
    go_wp2_with fail
    go_quiet (fail)
    go_wp2_with fail
    go_ret
    exact ⟨rfl, below_drewN (Below.refl _ _) _⟩
set_option maxHeartbeats 4000000 in
set_option maxRecDepth 100000 in
theorem late_any (B O : Nat) (p : Pd) (n : Int) (w : World) (h : PW w B O p) (hl : p.l.length ≤ 1000) (hw : DW w) (h0 : 0 ≤ n) (h1 : n ≤ 99999) :
    Calls Tryz.prog 34 #[.pointer (some ⟨B, O, none⟩), .int .i64 n] w (Gives (.bool (decide (Dy.moN n ≤ p.last))) w) := by
  obtain ⟨y, d, m, hi⟩ := Dy.parts_ex n h0 h1
  have HMO := Lib.hid (month_is n y d m w hw h0 h1 hi)
  have HL := Lib.hid (fun W (hW : Below w.heap.size w W) => plast_any B O p W (h.below hW) hl)
  rw [Dy.moN_is hi]
  generalize Dy.mo y m = mo at HMO ⊢
  generalize p.last = pl at HL ⊢
  clear hw hi h
  go_enter Tryz.func34, Tryz.ntmps34
  go_wp2_with fail
  refine HMO.out.mono ?_
  rintro e w2 ⟨rfl, hb2⟩
  go_wp2_with fail
  refine (HL.out _ hb2).mono ?_
  rintro e w3 ⟨rfl, hb3⟩
  go_wp2_with fail
  go_ret
  exact ⟨rfl, hb2.step hb3⟩
set_option maxHeartbeats 4000000 in
set_option maxRecDepth 100000 in
theorem cloneC_any (xa : Option Addr) (xc : Nat) (ls : List Cl) (w : World) (base : Nat) (ho : w.ownsRow base 57 7 (.slice xa ls.length xc) ls.length (flC ls)) (hl : ls.length ≤ 1000) :
    Calls Tryz.prog 50 #[.slice xa ls.length xc] w fun e w' => ∃ v', e = .returned v' ∧ w'.ownsRow w.heap.size 57 7 v' ls.length (flC ls) ∧ Below w.heap.size w w' := by
  obtain ⟨i0, hinf, hiz, his, hib⟩ := info_parts info_cl
  have hlen : (flC ls).length = ls.length * 7 := flK_len cl_len ls
  rcases ho.2 with ⟨e, h0⟩ | ⟨g, cap, cur, e, hg, hc, hnc, hm, hs, ht⟩
  · injection e with e1 e2 e3
    subst e1 e3
    have hnil : ls = [] := List.length_eq_zero_iff.1 e2
    subst hnil
    go_enter Tryz.func50, Tryz.ntmps50
    have k0 := fun (w : World) => Lib.run_eql_slice_nil (P := Tryz.prog) w
    try simp only [List.length_nil]
    go_wp2
    go_ret
    exact ⟨_, rfl, World.ownsRow_nil _ _ _ _, Below.refl _ _⟩
  · injection e with e1 e2 e3
    subst e1 e3
    have hgl : g < w.heap.size := (Array.getElem?_eq_some_iff.1 hc).1
    have HCS : Hid (∀ (ob : Obj) j u, (flC ls)[j]? = some u → (w.alloc ob).cell? ((⟨g, 0, none⟩ : Addr).add j) = some u) := Lib.hid (fun ob j u hu => by
      have e0 : (⟨g, 0, none⟩ : Addr).add j = ⟨g, j, none⟩ := by simp [Addr.add]; omega
      have hj : j < ls.length * 7 := by rw [← hlen]; exact (List.getElem?_eq_some_iff.1 hu).1
      rw [e0, ((Below.refl w.heap.size w).new ob).cell (p := ⟨g, j, none⟩) hgl]
      rw [← ht, List.getElem?_take_of_lt hj] at hu
      simpa [World.cell?, hc] using hu)
    have ONE : ∀ u ∈ flC ls, u.oneCell' = true := by
      intro u hu
      obtain ⟨c, hc, hu⟩ := List.mem_flatMap.1 hu
      exact one_cl c u hu
    clear ht hc
    have k0 := fun (w : World) => Lib.run_eql_slice_nil (P := Tryz.prog) w 41 57 (some ⟨g, 0, none⟩) ls.length xc 0 0 Tryz.underlying41
    go_enter Tryz.func50, Tryz.ntmps50
    go_wp2_with (first
      | (at_builtin; refine wpList_append_own _ rfl (.tmp 5) (.tmp 6) 41 rfl w.heap.size 57 i0 (.agg #[.int .i64 0, .int .i64 0, .int .i64 0, .int .i64 0, .int .i64 0, .int .i64 0, .int .i64 0]) 7 56 Tryz.underlying41 hinf hiz his hib rfl (by decide) _ 0 [] rfl (own_empty_e _ _ _ _ (Nat.le_refl _)) ⟨g, 0, none⟩ ls.length xc (flC ls) rfl hlen (HCS.out _) ONE (by unfold maxLen; omega) (by omega) (by simp) ?_; intro v2 w2 hown2 hg2 _))
    go_ret
    refine ⟨v2, rfl, ?_, ((Below.refl _ w).new _).owngrown (own_empty_e _ _ 57 7 (Nat.le_refl _)) hg2 (by simp)⟩
    simpa using hown2
set_option maxHeartbeats 4000000 in
set_option maxRecDepth 100000 in
theorem closed_any (B O : Nat) (p : Pd) (w : World) (h : PW w B O p) (hl : p.l.length ≤ 1000) :
    Calls Tryz.prog 17 #[.pointer (some ⟨B, O, none⟩)] w fun e w' => ∃ v, e = .returned v ∧ w'.ownsRow w.heap.size 57 7 v p.l.length (flC p.l) ∧ Below w.heap.size w w' := by
  obtain ⟨v, c0, ho⟩ := h.row
  obtain ⟨xa, xc, rfl⟩ := own_slice ho
  have hB := h.lt
  have HC := Lib.hid (cloneC_any xa xc p.l w (B + 1) ho hl)
  go_enter Tryz.func17, Tryz.ntmps17
  go_wp2_with fail
  refine HC.out.mono ?_
  rintro e w2 ⟨v2, rfl, ho2, hb2⟩
  go_wp2_with fail
  go_ret
  exact ⟨_, rfl, ho2, hb2⟩
end Go.Proofs.YtackpcohmmlkeaaGreatDoor
end

/- PdO: Open: what would be posted now. -/
section
namespace Go.Proofs.YtackpcohmmlkeaaGreatDoor
open Go.RowKit
set_option linter.unusedVariables false
set_option linter.unusedSimpArgs false

set_option maxHeartbeats 4000000 in
set_option maxRecDepth 100000 in
theorem popen_any (B O Bb : Nat) (b : Bk) (p : Pd) (w : World) (hk : BkW w Bb b) (hp : PW w B O p) (hI : BkI b) (hJ : PdI b p) (hw : DW w) :
    Calls Tryz.prog 19 #[.pointer (some ⟨B, O, none⟩), .pointer (some ⟨Bb, 0, none⟩)] w (Gives (p.opn b).agg w) := by
  have hle := as_le hI (-1)
  have hok := as_ok hI (-1)
  have hal := allF_le (b.as (-1)) 3300 (by omega)
  have hsl := hJ.total_le hI
  have HU : Hid (∀ a c W, Below w.heap.size w W → RdE W.heap.size W (.slice a (b.as (-1)).length c) (b.as (-1)) → Calls Tryz.prog 12 #[.slice a (b.as (-1)).length c, .int .i64 3300] W (Gives (allF (b.as (-1)) 3300).agg W)) := Lib.hid fun a c W hW hr => until_any a _ c _ 3300 W hr (hw.below hW) (by omega) (fun e he => (hok.1 e he).2.2) (fun e he => day_bd (hok.1 e he).2.2) hok.2
  unfold Pd.opn
  generalize allF (b.as (-1)) 3300 = f at HU hal ⊢
  obtain ⟨c1, c2, c3, c4, c5⟩ := hp.cells
  have hB := hp.lt
  have HMN : Hid (∀ W, Calls Tryz.prog 13 #[f.agg, p.sum.agg] W (Gives (f.minus p.sum).agg W)) := Lib.hid fun W => fminus_any f p.sum W (Fg.le_mono hal (by omega)) (Fg.le_mono hsl (by omega))
  generalize f.minus p.sum = f3 at HMN ⊢
  generalize p.sum = sm at HMN c1 c2 c3 c4 c5
  have HKW : Hid (∀ W, Below w.heap.size w W → BkW W Bb b) := Lib.hid fun W hW => hk.below hW
  have HI := Lib.hid hI
  obtain ⟨w0, hw0⟩ : ∃ w0, w0 = w.alloc (.cells #[.int .i64 0, .int .i64 0, .int .i64 0, .int .i64 0, .int .i64 0] 29) := ⟨_, rfl⟩
  have hb0 : Below w.heap.size w w0 := by rw [hw0]; exact (Below.refl _ _).new _
  have h4 : w0.heap[w.heap.size]? = some fg0.ob := by rw [hw0]; exact World.alloc_heap_new w _
  have H4 := Lib.hid h4
  have HW0 := Lib.hid hw0
  have hz0 : w.heap.size < w0.heap.size := (Array.getElem?_eq_some_iff.1 h4).1
  clear hk hp hI hJ hw hle hok hal hsl hw0 h4
  go_enter Tryz.func19, Tryz.ntmps19
  go_wp2_with fail
  rw [← HW0.out]
  refine wp_region_held_drew (S := fun W => Below w.heap.size w W) (by kernel_rfl) (below_drewN hb0 1) (fun hHeld => ?_)
  obtain ⟨W8, hW8⟩ : ∃ W8, W8 = w0.drew := ⟨_, rfl⟩
  have h48 : W8.heap[w.heap.size]? = some fg0.ob := by rw [hW8]; exact H4.out
  rw [← hW8] at hHeld ⊢
  clear hW8 hz0 hb0
  refine wpAnyH_take (i := 0) (v := ?_) rfl (by kernel_rfl) (by kernel_rfl) (by kernel_rfl) (fun _ _ _ h => h) (Or.inl ⟨by rfl, ?_⟩) hHeld ?_
  rotate_left
  · intro W hSw; go_simp; try (with_reducible rfl)
  refine wpAnyH_take (i := 3) (v := ?_) rfl (by kernel_rfl) (by kernel_rfl) (by kernel_rfl) (fun _ _ _ h => h) (Or.inl ⟨by rfl, ?_⟩) hHeld ?_
  rotate_left
  · intro W hSw; go_simp; try (with_reducible rfl)
  refine wpAnyH_take (i := 4) (v := ?_) rfl (by kernel_rfl) (by kernel_rfl) (by kernel_rfl) (fun _ _ _ h => h) (Or.inl ⟨by rfl, ?_⟩) hHeld ?_
  rotate_left
  · intro W hSw; go_simp; try (with_reducible rfl)
  refine wpAnyH_take (i := 5) (v := ?_) rfl (by kernel_rfl) (by kernel_rfl) (by kernel_rfl) (fun _ _ _ h => h) (Or.inl ⟨by rfl, ?_⟩) hHeld ?_
  rotate_left
  · intro W hSw; go_simp; try (with_reducible rfl)
  refine wpAnyH_take (i := 6) (v := ?_) rfl (by kernel_rfl) (by kernel_rfl) (by kernel_rfl) (fun _ _ _ h => h) (Or.inl ⟨by rfl, ?_⟩) hHeld ?_
  rotate_left
  · intro W hSw; have d1 := (hSw.cell (p := ⟨B, O + 1, none⟩) hB).trans c1; have d2 := (hSw.cell (p := ⟨B, O + 2, none⟩) hB).trans c2; have d3 := (hSw.cell (p := ⟨B, O + 3, none⟩) hB).trans c3; have d4 := (hSw.cell (p := ⟨B, O + 4, none⟩) hB).trans c4; have d5 := (hSw.cell (p := ⟨B, O + 5, none⟩) hB).trans c5; go_simp; try (with_reducible rfl)
  refine wpAnyH_ready (rs := [1]) (by kernel_rfl) (by simp) (AllReadyH.cons rfl (fun K hK => ?_) AllReadyH.nil)
  go_simp
  refine (as_any Bb b (-1) _ (HKW.out _ hHeld) HI.out).mono ?_
  rintro e w2 ⟨v2, rfl, ho2, hb2⟩
  obtain ⟨xa2, xc2, rfl⟩ := own_slice ho2
  have hr2 := Lib.hid (rdE_of_own ho2 rfl)
  have h42 := (hb2.block w.heap.size (Array.getElem?_eq_some_iff.1 h48).1).trans h48
  refine hK.out _ _ (hHeld.step hb2) (fun hHeld => ?_)
  clear ho2 hb2 h48
  clear hK K
  refine wpAnyH_ready (rs := [2]) (by kernel_rfl) (by simp) (AllReadyH.cons rfl (fun K hK => ?_) AllReadyH.nil)
  go_simp
  refine (HU.out xa2 xc2 w2 hHeld hr2.out).mono ?_
  rintro e w3 ⟨rfl, hb3⟩
  have h43 := (hb3.block w.heap.size (Array.getElem?_eq_some_iff.1 h42).1).trans h42
  refine hK.out _ _ (hHeld.step hb3) (fun hHeld => ?_)
  clear hb3 h42 hr2
  clear hK K
  refine wpAnyH_ready (rs := [7]) (by kernel_rfl) (by simp) (AllReadyH.cons rfl (fun K hK => ?_) AllReadyH.nil)
  go_simp
  refine (HMN.out w3).mono ?_
  rintro e w4 ⟨rfl, hb4⟩
  have h44 := (hb4.block w.heap.size (Array.getElem?_eq_some_iff.1 h43).1).trans h43
  refine hK.out _ _ (hHeld.step hb4) (fun hHeld => ?_)
  have HT := fig_there h44 rfl
  have HS := fig_set h44 rfl f3
  have HBF := below_gbP hHeld (setCells_gb w.heap.size f3.cells 0 w4) (Nat.le_refl _) hHeld.size
  clear hb4 h43
  clear hK K
  refine wpAnyH_ready (rs := [8]) (by kernel_rfl) (by simp) (AllReadyH.cons rfl (fun K hK => ?_) AllReadyH.nil)
  rw [if_pos (by rfl)]
  refine wp_store_mid 29 (.tmp 4) (.tmp 12) rfl w.heap.size 0 f3.cells.toArray rfl rfl HT (by kernel_rfl) (all_oneCell_toArray (one_fg f3)) ?_
  refine hK.out _ _ HBF (fun hHeld => ?_)
  clear hK K
  refine wpAnyH_done (by kernel_rfl) ?_ _
  obtain ⟨e0, e1, e2, e3, e4⟩ := fig_cells HS
  go_wp2_with fail
  exact bodyPost_ret (v := f3.agg) (by simp [results, Tryz.results19, go_sem, e0, e1, e2, e3, e4]) rfl ⟨rfl, HBF⟩
end Go.Proofs.YtackpcohmmlkeaaGreatDoor
end
