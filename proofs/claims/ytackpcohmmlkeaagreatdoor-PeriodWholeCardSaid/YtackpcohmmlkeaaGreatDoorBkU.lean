/- Joined: BkP, BkW, BkX, BkU. -/
import Derived.Test.YtackpcohmmlkeaaGreatDoorCsRp
import Derived.Test.YtackpcohmmlkeaaGreatDoorRowM
import Derived.Test.YtackpcohmmlkeaaGreatDoorQTail
import Derived.Deep.LoopGhost
import Derived.Deep.RegionWith

/- BkP: A book, plainly: versions, what is posted, corrected, voided; what was known behind a turn. -/
section
namespace Go.Proofs.YtackpcohmmlkeaaGreatDoor
open Go.RowKit
set_option linter.unusedVariables false

structure Ver where
  ev : Evt
  frm : Int
  to : Int
structure Bk where
  l : List Ver
  turn : Int
  next : Int
def bk0 : Bk := ⟨[], 0, 0⟩
/-- The version of a number that is known yet. -/
def isLive (id : Int) (v : Ver) : Bool := v.ev.id == id && v.to == 0
def Bk.live (b : Bk) (id : Int) : Option Nat := b.l.findIdx? (isLive id)
def Evt.num (e : Evt) (z : Int) : Evt := ⟨z, e.item, e.kind, e.qty, e.price, e.ofn, e.day⟩
def setTo (l : List Ver) (k : Nat) (t : Int) : List Ver := l.modify k fun v => ⟨v.ev, v.frm, t⟩
def Bk.write (b : Bk) (e : Evt) : Bk := ⟨b.l ++ [⟨e, b.turn + 1, 0⟩], b.turn + 1, b.next⟩
/-- Post: the book behind it, the number, what is wrong. -/
def Bk.post (b : Bk) (e : Evt) : Bk × Int × Option Int :=
  if e.right then (if 120 ≤ b.l.length then (b, 0, some 12) else (Bk.write ⟨b.l, b.turn, b.next + 1⟩ (e.num (b.next + 1)), b.next + 1, none)) else (b, 0, some 1)
def Bk.correct (b : Bk) (id : Int) (e : Evt) : Bk × Option Int :=
  match b.live id with
  | none => (b, some 7)
  | some k => if e.right then (if 120 ≤ b.l.length then (b, some 12) else (⟨setTo (b.write (e.num id)).l k (b.turn + 1), b.turn + 1, b.next⟩, none)) else (b, some 1)
def Bk.void (b : Bk) (id : Int) : Bk × Option Int :=
  match b.live id with
  | none => (b, some 7)
  | some k => (⟨setTo b.l k (b.turn + 1), b.turn + 1, b.next⟩, none)
/-- Known behind a turn. -/
def knownAt (t : Int) (v : Ver) : Bool := decide (v.frm ≤ t) && (v.to == 0 || decide (t < v.to))
def Bk.at (b : Bk) (t : Int) : Int := if t < 0 ∨ b.turn < t then b.turn else t
def Bk.as (b : Bk) (t : Int) : List Evt := Stb.isort leE ((b.l.filter (knownAt (b.at t))).map Ver.ev)
/-- What holds of a version. -/
def OkV (t n : Int) (v : Ver) : Prop := 1 ≤ v.frm ∧ v.frm ≤ t ∧ (v.to = 0 ∨ (v.frm < v.to ∧ v.to ≤ t)) ∧ 1 ≤ v.ev.id ∧ v.ev.id ≤ n ∧ v.ev.right = true
theorem OkV.mono {t n t' n' : Int} {v : Ver} (h : OkV t n v) (ht : t ≤ t') (hn : n ≤ n') : OkV t' n' v := by
  obtain ⟨h1, h2, h3, h4, h5, h6⟩ := h
  exact ⟨h1, by omega, by omega, h4, by omega, h6⟩
/-- What holds of a book. -/
structure BkI (b : Bk) : Prop where
  len : b.l.length ≤ 120
  turn0 : 0 ≤ b.turn
  next0 : 0 ≤ b.next
  ok : ∀ v ∈ b.l, OkV b.turn b.next v
  apart : b.l.Pairwise fun x y => x.ev.id = y.ev.id → x.to ≠ 0 ∧ x.to ≤ y.frm
theorem bkI0 : BkI bk0 := ⟨by simp [bk0], Int.le_refl _, Int.le_refl _, fun v hv => (by cases hv), List.Pairwise.nil⟩
theorem BkI.uniq {b : Bk} (h : BkI b) (t : Int) : Uniq ((b.l.filter (knownAt t)).map Ver.ev) := by
  unfold Uniq
  rw [List.pairwise_map]
  refine List.Pairwise.imp_of_mem ?_ (List.Pairwise.filter _ h.apart)
  intro x y hx hy hxy e
  obtain ⟨h1, h2⟩ := hxy e
  have k1 := (List.mem_filter.1 hx).2
  have k2 := (List.mem_filter.1 hy).2
  simp only [knownAt, Bool.and_eq_true, Bool.or_eq_true, decide_eq_true_eq, beq_iff_eq] at k1 k2
  omega
theorem live_spec {b : Bk} {id : Int} {k : Nat} (h : b.live id = some k) : ∃ hk : k < b.l.length, isLive id b.l[k] = true ∧ ∀ j (hj : j < k), isLive id b.l[j] = false := by
  unfold Bk.live at h
  rw [List.findIdx?_eq_some_iff_getElem] at h
  obtain ⟨hk, h1, h2⟩ := h
  exact ⟨hk, h1, fun j hj => by have := h2 j hj; simpa using this⟩
theorem live_none {b : Bk} {id : Int} (h : b.live id = none) : ∀ v ∈ b.l, isLive id v = false := by
  unfold Bk.live at h
  rw [List.findIdx?_eq_none_iff] at h
  exact h
theorem num_right (e : Evt) (z : Int) : (e.num z).right = e.right := rfl
theorem setTo_len (l : List Ver) (k : Nat) (t : Int) : (setTo l k t).length = l.length := by simp [setTo]
theorem setTo_get (l : List Ver) (k : Nat) (t : Int) (j : Nat) (hj : j < l.length) : (setTo l k t)[j]'(by rw [setTo_len]; exact hj) = if k = j then ⟨l[j].ev, l[j].frm, t⟩ else l[j] := by
  simp only [setTo, List.getElem_modify]
theorem BkI.write {b : Bk} (h : BkI b) (e : Evt) (he : e.right = true) (hid : 1 ≤ e.id ∧ e.id ≤ b.next) (hlen : b.l.length < 120) (hno : ∀ v ∈ b.l, v.ev.id = e.id → v.to ≠ 0) : BkI (b.write e) := by
  refine ⟨by simp [Bk.write]; omega, by simp only [Bk.write]; have := h.turn0; omega, h.next0, fun v hv => ?_, ?_⟩
  · simp only [Bk.write] at hv ⊢
    rcases List.mem_append.1 hv with hv | hv
    · exact (h.ok v hv).mono (by omega) (Int.le_refl _)
    · rw [List.mem_singleton.1 hv]
      have := h.turn0
      exact ⟨by simp only; omega, by simp, Or.inl rfl, hid.1, hid.2, he⟩
  · simp only [Bk.write]
    refine List.pairwise_append.2 ⟨h.apart, List.pairwise_singleton _ _, fun x hx y hy hxy => ?_⟩
    rw [List.mem_singleton.1 hy] at hxy ⊢
    have h1 := hno x hx hxy
    obtain ⟨-, -, h2, -⟩ := h.ok x hx
    refine ⟨h1, ?_⟩
    simp only
    omega
theorem BkI.post {b : Bk} (h : BkI b) (e : Evt) : BkI (b.post e).1 := by
  unfold Bk.post
  split
  · rename_i hr
    split
    · exact h
    · refine BkI.write (b := ⟨b.l, b.turn, b.next + 1⟩) ⟨h.len, h.turn0, by have := h.next0; simp only; omega, fun v hv => (h.ok v hv).mono (Int.le_refl _) (by simp only; omega), h.apart⟩ _ (by rw [num_right]; exact hr) ⟨by simp only [Evt.num]; have := h.next0; omega, Int.le_refl _⟩ (by simp only; omega) (fun v hv hid => ?_)
      · obtain ⟨-, -, -, -, h5, -⟩ := h.ok v hv; simp only [Evt.num] at hid; omega
  · exact h
theorem BkI.correct {b : Bk} (h : BkI b) (id : Int) (e : Evt) : BkI (b.correct id e).1 := by
  unfold Bk.correct
  split
  · exact h
  · rename_i k hk
    split
    · rename_i hr
      split
      · exact h
      · rename_i hlen
        obtain ⟨hkl, hlive, hbef⟩ := live_spec hk
        simp only [isLive, Bool.and_eq_true, beq_iff_eq] at hlive
        obtain ⟨k1, k2, k3, k4, k5, k6⟩ := h.ok _ (List.getElem_mem hkl)
        have hg : ∀ j (hj : j < (setTo (b.write (e.num id)).l k (b.turn + 1)).length), (j = b.l.length ∧ (setTo (b.write (e.num id)).l k (b.turn + 1))[j] = ⟨e.num id, b.turn + 1, 0⟩) ∨ ∃ hj' : j < b.l.length, (setTo (b.write (e.num id)).l k (b.turn + 1))[j] = if k = j then ⟨b.l[j].ev, b.l[j].frm, b.turn + 1⟩ else b.l[j] := by
          intro j hj
          rw [setTo_len] at hj
          simp only [Bk.write, List.length_append, List.length_cons, List.length_nil] at hj
          rw [setTo_get _ _ _ _ (by simp [Bk.write]; omega)]
          by_cases e1 : j < b.l.length
          · right
            refine ⟨e1, ?_⟩
            simp only [Bk.write, List.getElem_append_left e1]
          · left
            have e2 : j = b.l.length := by omega
            subst e2
            refine ⟨rfl, ?_⟩
            rw [if_neg (by omega)]
            simp [Bk.write]
        refine ⟨by rw [setTo_len]; simp [Bk.write]; omega, by simp only; have := h.turn0; omega, h.next0, fun v hv => ?_, ?_⟩
        · obtain ⟨j, hj, rfl⟩ := List.getElem_of_mem hv
          rcases hg j hj with ⟨-, h1⟩ | ⟨hj', h1⟩
          · rw [h1]
            have := h.turn0
            exact ⟨by simp only; omega, Int.le_refl _, Or.inl rfl, by simp only [Evt.num]; omega, by simp only [Evt.num]; omega, by rw [num_right]; exact hr⟩
          · rw [h1]
            have ho := h.ok _ (List.getElem_mem hj')
            split
            · obtain ⟨o1, o2, o3, o4⟩ := ho
              exact ⟨o1, by simp only; omega, Or.inr ⟨by simp only; omega, by simp only; omega⟩, o4⟩
            · exact ho.mono (by simp only; omega) (Int.le_refl _)
        · rw [List.pairwise_iff_getElem]
          intro i j hi hj hij
          have hap := List.pairwise_iff_getElem.1 h.apart
          rcases hg i hi with ⟨hi1, h1⟩ | ⟨hi', h1⟩
          · rcases hg j hj with ⟨hj1, -⟩ | ⟨hj', -⟩
            · omega
            · omega
          · rcases hg j hj with ⟨hj1, h2⟩ | ⟨hj', h2⟩
            · rw [h1, h2]
              split
              · intro _; simp only; have := h.turn0; omega
              · rename_i hne
                intro hid
                simp only [Evt.num] at hid
                obtain ⟨-, -, hoi, -⟩ := h.ok _ (List.getElem_mem hi')
                have : b.l[i].to ≠ 0 := by
                  intro h0
                  rcases Nat.lt_trichotomy i k with hlt | heq | hgt
                  · have := hbef i hlt
                    simp [isLive, hid, h0] at this
                  · exact hne heq.symm
                  · have := hap k i hkl hi' hgt (by rw [hlive.1, hid])
                    exact this.1 hlive.2
                refine ⟨this, ?_⟩
                simp only
                omega
            · rw [h1, h2]
              have h3 := hap i j hi' hj' hij
              intro hid
              have hid' : b.l[i].ev.id = b.l[j].ev.id := by
                revert hid
                split <;> split <;> exact fun h => h
              have h4 := h3 hid'
              split
              · rename_i e1
                subst e1
                exact absurd hlive.2 h4.1
              · split
                · exact h4
                · exact h4
    · exact h
theorem BkI.void {b : Bk} (h : BkI b) (id : Int) : BkI (b.void id).1 := by
  unfold Bk.void
  split
  · exact h
  · rename_i k hk
    obtain ⟨hkl, hlive, hbef⟩ := live_spec hk
    simp only [isLive, Bool.and_eq_true, beq_iff_eq] at hlive
    obtain ⟨k1, k2, k3, k4, k5, k6⟩ := h.ok _ (List.getElem_mem hkl)
    have hap := List.pairwise_iff_getElem.1 h.apart
    refine ⟨by rw [setTo_len]; exact h.len, by simp only; have := h.turn0; omega, h.next0, fun v hv => ?_, ?_⟩
    · obtain ⟨j, hj, rfl⟩ := List.getElem_of_mem hv
      have hj' : j < b.l.length := by rw [setTo_len] at hj; exact hj
      rw [setTo_get _ _ _ _ hj']
      have ho := h.ok _ (List.getElem_mem hj')
      split
      · obtain ⟨o1, o2, o3, o4⟩ := ho
        exact ⟨o1, by simp only; omega, Or.inr ⟨by simp only; omega, by simp only; omega⟩, o4⟩
      · exact ho.mono (by simp only; omega) (Int.le_refl _)
    · rw [List.pairwise_iff_getElem]
      intro i j hi hj hij
      have hi' : i < b.l.length := by rw [setTo_len] at hi; exact hi
      have hj' : j < b.l.length := by rw [setTo_len] at hj; exact hj
      rw [setTo_get _ _ _ _ hi', setTo_get _ _ _ _ hj']
      have h3 := hap i j hi' hj' hij
      intro hid
      have hid' : b.l[i].ev.id = b.l[j].ev.id := by
        revert hid
        split <;> split <;> exact fun h => h
      have h4 := h3 hid'
      split
      · rename_i e1
        subst e1
        exact absurd hlive.2 h4.1
      · split
        · exact h4
        · exact h4
end Go.Proofs.YtackpcohmmlkeaaGreatDoor
end

/- BkW: A book in memory: its three cells, its versions; what a call on it may turn. -/
section
namespace Go.Proofs.YtackpcohmmlkeaaGreatDoor
open Go.RowKit
set_option linter.unusedVariables false

def Ver.cells (v : Ver) : List Value := [.int .i64 v.ev.id, .string v.ev.item, .int .i64 v.ev.kind, .int .i64 v.ev.qty, .int .i64 v.ev.price, .int .i64 v.ev.ofn, .int .i64 v.ev.day, .int .i64 v.frm, .int .i64 v.to]
abbrev Ver.agg (v : Ver) : Value := .agg #[.int .i64 v.ev.id, .string v.ev.item, .int .i64 v.ev.kind, .int .i64 v.ev.qty, .int .i64 v.ev.price, .int .i64 v.ev.ofn, .int .i64 v.ev.day, .int .i64 v.frm, .int .i64 v.to]
abbrev Ver.ob (v : Ver) : Obj := .cells #[.int .i64 v.ev.id, .string v.ev.item, .int .i64 v.ev.kind, .int .i64 v.ev.qty, .int .i64 v.ev.price, .int .i64 v.ev.ofn, .int .i64 v.ev.day, .int .i64 v.frm, .int .i64 v.to] 114
theorem ver_len (v : Ver) : v.cells.length = 9 := rfl
theorem one_ver (v : Ver) : ∀ u ∈ v.cells, u.oneCell' = true := by
  intro u hu
  simp only [Ver.cells, List.mem_cons, List.not_mem_nil, or_false] at hu
  rcases hu with rfl | rfl | rfl | rfl | rfl | rfl | rfl | rfl | rfl <;> rfl
abbrev flV (l : List Ver) : List Value := flK Ver.cells l
theorem info_ver : (Tryz.prog.info? 114).map (fun i => (i.zero, i.size, i.bytes)) = some (some (.agg #[.int .i64 0, .string ⟨#[]⟩, .int .i64 0, .int .i64 0, .int .i64 0, .int .i64 0, .int .i64 0, .int .i64 0, .int .i64 0]), 9, 80) := by kernel_rfl
/-- A book at block B. -/
structure BkW (w : World) (B : Nat) (b : Bk) : Prop where
  c1 : w.cell? ⟨B, 1, none⟩ = some (.int .i64 b.turn)
  c2 : w.cell? ⟨B, 2, none⟩ = some (.int .i64 b.next)
  fz : ∀ j, w.frozen? ⟨B, j, none⟩ = false
  row : ∃ v, w.cell? ⟨B, 0, none⟩ = some v ∧ w.ownsRow (B + 1) 114 9 v b.l.length (flV b.l)
  nt : ∃ cur t fz, w.heap[B]? = some (.cells cur t fz) ∧ t ≠ 114
/-- What a call on the book at B may turn: its first three cells, and blocks of versions. -/
structure Ch (B : Nat) (w w' : World) : Prop where
  os : w'.os = w.os
  tape : w'.tape = w.tape
  output : w'.output = w.output
  size : w.heap.size ≤ w'.heap.size
  block : ∀ k o, w.heap[k]? = some o → k ≠ B → (∀ cur fz, o ≠ .cells cur 114 fz) → w'.heap[k]? = some o
  far : ∀ o, 3 ≤ o → w'.cell? ⟨B, o, none⟩ = w.cell? ⟨B, o, none⟩
  frz : ∀ o, w'.frozen? ⟨B, o, none⟩ = w.frozen? ⟨B, o, none⟩
  low : ∀ k, k < B → w'.heap[k]? = w.heap[k]?
theorem Ch.refl (B : Nat) (w : World) : Ch B w w := ⟨rfl, rfl, rfl, Nat.le_refl _, fun _ _ h _ _ => h, fun _ _ => rfl, fun _ => rfl, fun _ _ => rfl⟩
theorem Ch.trans {B : Nat} {a b c : World} (h : Ch B a b) (k : Ch B b c) : Ch B a c :=
  ⟨k.os.trans h.os, k.tape.trans h.tape, k.output.trans h.output, Nat.le_trans h.size k.size, fun i o h1 h2 h3 => k.block i o (h.block i o h1 h2 h3) h2 h3, fun o ho => (k.far o ho).trans (h.far o ho), fun o => (k.frz o).trans (h.frz o), fun i hi => (k.low i hi).trans (h.low i hi)⟩
theorem Ch.of_below {B : Nat} {w w' : World} (h : Below w.heap.size w w') (hB : B < w.heap.size) : Ch B w w' :=
  ⟨h.os, h.tape, h.output, h.size, fun k o h1 _ _ => (h.block k (Array.getElem?_eq_some_iff.1 h1).1).trans h1, fun o _ => h.cell (p := ⟨B, o, none⟩) hB, fun o => h.frozen (p := ⟨B, o, none⟩) hB, fun k hk => h.block k (by omega)⟩
theorem Ch.cellLow {B : Nat} {w w' : World} (h : Ch B w w') {g j : Nat} (hg : g < B) : w'.cell? ⟨g, j, none⟩ = w.cell? ⟨g, j, none⟩ := by simp only [World.cell?, h.low g hg]
theorem Ch.own {B base e size n : Nat} {w w' : World} {v : Value} {xs : List Value} (h : w.ownsRow base e size v n xs) (hc : Ch B w w') (hB : B < base) (he : e ≠ 114) : w'.ownsRow base e size v n xs := by
  refine ⟨h.1, ?_⟩
  rcases h.2 with h0 | ⟨g, cap, cur, e1, h2, h3, h4⟩
  · exact .inl h0
  · refine .inr ⟨g, cap, cur, e1, h2, hc.block g _ h3 (by omega) (fun cu fz e2 => ?_), h4⟩
    injection e2 with _ e2
    exact he e2
theorem BkW.lt {w : World} {B : Nat} {b : Bk} (h : BkW w B b) : B < w.heap.size := cell_lt h.c1
theorem BkW.below {w w' : World} {B : Nat} {b : Bk} (h : BkW w B b) (hb : Below w.heap.size w w') : BkW w' B b := by
  have hl := h.lt
  obtain ⟨v, h1, h2⟩ := h.row
  refine ⟨(hb.cell (p := ⟨B, 1, none⟩) hl).trans h.c1, (hb.cell (p := ⟨B, 2, none⟩) hl).trans h.c2, fun j => (hb.frozen (p := ⟨B, j, none⟩) hl).trans (h.fz j), ⟨v, (hb.cell (p := ⟨B, 0, none⟩) hl).trans h1, own_below h2 hb⟩, ?_⟩
  obtain ⟨cur, t, fz, e1, e2⟩ := h.nt
  exact ⟨cur, t, fz, (hb.block B hl).trans e1, e2⟩
/-- Versions, for reading. -/
def RdV (w : World) (a : Option Addr) (ls : List Ver) : Prop := ∀ k (hk : k < ls.length), ∃ b off, a = some ⟨b, off, none⟩ ∧ b < w.heap.size ∧ ∀ j u, ls[k].cells[j]? = some u → w.cell? ⟨b, off + k * 9 + j, none⟩ = some u
theorem RdV.below {w w' : World} {a : Option Addr} {ls : List Ver} (h : RdV w a ls) (hb : Below w.heap.size w w') : RdV w' a ls := fun k hk => by
  obtain ⟨b, off, h1, h2, h3⟩ := h k hk
  exact ⟨b, off, h1, Nat.lt_of_lt_of_le h2 hb.size, fun j u hu => (hb.cell (p := ⟨b, off + k * 9 + j, none⟩) h2).trans (h3 j u hu)⟩
theorem rdV_of_own {w : World} {base n : Nat} {xa : Option Addr} {xc : Nat} {ls : List Ver} (h : w.ownsRow base 114 9 (.slice xa n xc) n (flV ls)) : RdV w xa ls := fun k hk => by
  have hl := flK_len ver_len ls
  rcases h.2 with ⟨-, h0⟩ | ⟨g, cap, cur, e1, hB, hc, hn, hm, hs, ht⟩
  · rw [h.1, h0] at hl; omega
  injection e1 with e1
  subst e1
  refine ⟨g, 0, rfl, (Array.getElem?_eq_some_iff.1 hc).1, fun j u hu => ?_⟩
  have hj : j < 9 := (List.getElem?_eq_some_iff.1 hu).1
  have h1 := flK_get ver_len ls k hk j hj
  have hlt : k * 9 + j < n * 9 := by rw [← h.1, hl]; omega
  rw [show flK Ver.cells ls = flV ls from rfl, hu, ← ht, List.getElem?_take_of_lt hlt, Array.getElem?_toList] at h1
  simp only [World.cell?, hc, Nat.zero_add]
  simpa using h1
def FirstV (p : Ver → Bool) (es : List Ver) (z : Int) : Prop := (z = -1 ∧ ∀ x ∈ es, p x = false) ∨ ∃ k : Nat, ∃ hk : k < es.length, z = k ∧ p es[k] = true ∧ ∀ j (hj : j < k), p es[j] = false
set_option maxHeartbeats 1000000 in
set_option maxRecDepth 100000 in
theorem indexV_any (g : Nat) (cb : Array Value) (p : Ver → Bool) (a : Option Addr) (c : Nat) (es : List Ver) (w : World) (hr : RdV w a es) (hlen : es.length ≤ 1000) (eg : ∀ args w, (callFunc g args).run Tryz.prog w = .ok (.enter g args) w)
    (hf : ∀ e ∈ es, ∀ W, Below w.heap.size w W → Calls Tryz.prog g (#[e.agg] ++ cb) W fun x w' => x = .returned (.bool (p e)) ∧ Below W.heap.size W w') :
    Calls Tryz.prog 115 #[.slice a es.length c, .func (.func g) #[] cb] w fun e w' => ∃ z, e = .returned (.int .i64 z) ∧ FirstV p es z ∧ Below w.heap.size w w' := by
  have HR := Lib.hid hr
  have HF := Lib.hid hf
  clear hr hf
  go_enter Tryz.func115, Tryz.ntmps115
  go_wp2
  go_loopg [8] es.length (fun kx i wr => ∃ k : Nat, k ≤ es.length ∧ i = .int .i64 k ∧ es.length - k ≤ kx ∧ Hid (∀ j (hj : j < k) (h2 : j < es.length), p es[j] = false) ∧ Below w.heap.size w wr)
  case atStart => exact ⟨0, by omega, rfl, by omega, fun j hj => absurd hj (by omega), Below.refl _ _⟩
  case round =>
    obtain ⟨k, hk, rfl, hkx, HN, hb⟩ := hrel
    by_cases hlt : k < es.length
    · have hltz : (k : Int) < (es.length : Int) := by omega
      obtain ⟨b, off, rfl, hbh, h7⟩ := (HR.out.below hb) k hlt
      have c0 := h7 0 _ rfl
      have c1 := h7 1 _ rfl
      have c2 := h7 2 _ rfl
      have c3 := h7 3 _ rfl
      have c4 := h7 4 _ rfl
      have c5 := h7 5 _ rfl
      have c6 := h7 6 _ rfl
      have c7 := h7 7 _ rfl
      have c8 := h7 8 _ rfl
      rw [Nat.add_zero] at c0
      obtain ⟨e, he⟩ : ∃ e, e = es[k] := ⟨_, rfl⟩
      have HC := Lib.hid (HF.out e (by rw [he]; exact List.getElem_mem hlt) wr hb)
      rw [← he] at c0 c1 c2 c3 c4 c5 c6 c7 c8
      have HE := Lib.hid he
      clear h7 he
      simp only [Ver.agg] at HC
      cases hp : p e with
      | true =>
        have HPE := Lib.hid hp
        rw [hp] at HC
        clear hp
        go_wp2_with (go_at_fn g; refine HC.out.mono ?_; rintro e w2 ⟨rfl, hb2⟩)
        (try simp only [Exit.inBlock, Exit.then])
        refine bodyPost_ret (results_tmp rfl _ _ _) rfl ?_
        exact ⟨_, rfl, .inr ⟨k, hlt, rfl, by rw [← HE.out]; exact HPE.out, fun j hj => HN.out j hj (by omega)⟩, hb.step hb2⟩
      | false =>
        have HPE := Lib.hid hp
        rw [hp] at HC
        clear hp
        go_wp2_with (go_at_fn g; refine HC.out.mono ?_; rintro e w2 ⟨rfl, hb2⟩)
        go_roundg (es.length - (k + 1))
        case measure => omega
        case rel =>
          refine ⟨k + 1, hlt, by first | rfl | go_num | (congr 1; omega), Nat.le_refl _, (show Hid _ from fun j hj h2 => ?_), hb.step hb2⟩
          by_cases hjk : j = k
          · subst hjk; rw [← HE.out]; exact HPE.out
          · exact HN.out j (by omega) h2
    · have hltz : ¬ (k : Int) < (es.length : Int) := by omega
      go_wp2
      go_ret
      refine ⟨_, rfl, .inl ⟨rfl, fun x hx => ?_⟩, hb⟩
      obtain ⟨j, hj, rfl⟩ := List.getElem_of_mem hx
      exact HN.out j (by omega) hj
set_option maxHeartbeats 1000000 in
theorem live1_any (v : Ver) (X : Nat) (id : Int) (w : World) (hX : w.cell? ⟨X, 0, none⟩ = some (.int .i64 id)) : Calls Tryz.prog 116 #[v.agg, .pointer (some ⟨X, 0, none⟩)] w fun x w' => x = .returned (.bool (isLive id v)) ∧ Below w.heap.size w w' := by
  obtain ⟨⟨i, s, k, q, p, o, d⟩, f, t⟩ := v
  have hl : X < w.heap.size := cell_lt hX
  simp only [isLive]
  by_cases h1 : (i == id) = true
  · rw [h1, Bool.true_and]
    go_enter Tryz.func116, Tryz.ntmps116
    go_wp2
    go_ret
    exact ⟨rfl, (Below.refl _ w).new _⟩
  · rw [Bool.not_eq_true] at h1
    rw [h1, Bool.false_and]
    go_enter Tryz.func116, Tryz.ntmps116
    go_wp2
    go_ret
    exact ⟨rfl, (Below.refl _ w).new _⟩
def liveZ (b : Bk) (id : Int) : Int := match b.live id with | none => -1 | some k => k
theorem liveZ_first {b : Bk} {id z : Int} (h : FirstV (isLive id) b.l z) : z = liveZ b id := by
  unfold liveZ Bk.live
  rcases h with ⟨rfl, h⟩ | ⟨k, hk, rfl, h1, h2⟩
  · rw [List.findIdx?_eq_none_iff.2 (fun x hx => by rw [h x hx])]
  · rw [List.findIdx?_eq_some_iff_getElem.2 ⟨hk, h1, fun j hj => by rw [h2 j hj]; simp⟩]
set_option maxHeartbeats 1000000 in
set_option maxRecDepth 100000 in
theorem live_any (B : Nat) (b : Bk) (id : Int) (w : World) (h : BkW w B b) (hlen : b.l.length ≤ 120) :
    Calls Tryz.prog 78 #[.pointer (some ⟨B, 0, none⟩), .int .i64 id] w fun e w' => e = .returned (.int .i64 (liveZ b id)) ∧ Below w.heap.size w w' := by
  obtain ⟨v, c0, ho⟩ := h.row
  obtain ⟨xa, xc, rfl⟩ := own_slice ho
  obtain ⟨W0, hW0⟩ : ∃ W0, W0 = w.alloc (.cells #[.int .i64 id] 3) := ⟨_, rfl⟩
  have hb0 : Below w.heap.size w W0 := by rw [hW0]; exact (Below.refl _ w).new _
  have hcX : W0.cell? ⟨w.heap.size, 0, none⟩ = some (.int .i64 id) := by rw [hW0]; exact new_at w _ _ 0 _ rfl
  have hXl : w.heap.size < W0.heap.size := cell_lt hcX
  have hBl := h.lt
  have HIX := Lib.hid (indexV_any 116 #[.pointer (some ⟨w.heap.size, 0, none⟩)] (isLive id) xa xc b.l W0 ((rdV_of_own ho).below hb0) (by omega) (enters_of Tryz.func116 (by kernel_rfl) rfl) (fun e he W hW => live1_any e _ id W ((hW.cell (p := ⟨w.heap.size, 0, none⟩) hXl).trans hcX)))
  have HW0 := Lib.hid hW0
  have HB0 := Lib.hid hb0
  clear hW0 hcX ho h hb0
  go_enter Tryz.func78, Tryz.ntmps78
  go_wp2_with fail
  rw [← HW0.out]
  refine HIX.out.mono ?_
  rintro e w2 ⟨z, rfl, hz, hb2⟩
  obtain rfl := liveZ_first hz
  clear hz
  go_wp2_with fail
  go_ret
  exact ⟨rfl, HB0.out.step hb2⟩
end Go.Proofs.YtackpcohmmlkeaaGreatDoor
end

/- BkX: The book's write, plainly walked up to its drawn region. -/
section
namespace Go.Proofs.YtackpcohmmlkeaaGreatDoor
open Go.RowKit
set_option linter.unusedVariables false

theorem slice_clipV (a : Option Addr) (n cap : Nat) (hc : n ≤ cap) (w : World) :
    (Instr.slice 38 (.slice a n cap) none (some (.int .i64 n)) (some (.int .i64 n))).run Tryz.prog w = .ok (.slice a n n) w := by
  cases a with
  | none => go_simp
  | some ad => go_simp
theorem clipV_any (a : Option Addr) (n cap : Nat) (hc : n ≤ cap) (w : World) :
    Calls Tryz.prog 106 #[.slice a n cap] w fun e w' => e = .returned (.slice a n n) ∧ w' = w := by
  have h := fun W => slice_clipV a n cap hc W
  go_enter Tryz.func106, Tryz.ntmps106
  go_wp2
  go_ret
  exact ⟨rfl, rfl⟩
theorem zerosV (n : Nat) : (Builtin.zeroCells (Value.cells (.agg #[.int .i64 0, .string ⟨#[]⟩, .int .i64 0, .int .i64 0, .int .i64 0, .int .i64 0, .int .i64 0, .int .i64 0, .int .i64 0])) n).size = n * 9 := by
  simp [Builtin.zeroCells, Value.cells]
/-- A new row of the call's own. -/
theorem own_fresh (w : World) (T : TypeId) (K n cap : Nat) (vs : List Value) (Z : Array Value) (hv : vs.length = n * K) (hz : Z.size = (cap - n) * K) (hn : n ≤ cap) (hm : cap ≤ maxLen) (base : Nat) (hB : base ≤ w.heap.size) :
    (w.drew.alloc (.cells (vs.toArray ++ Z) T)).ownsRow base T K (.slice (some ⟨w.heap.size, 0, none⟩) n cap) n vs := by
  refine ⟨hv, .inr ⟨w.heap.size, cap, _, rfl, hB, World.alloc_heap_new w.drew _, hn, hm, ?_, ?_⟩⟩
  · rw [Array.size_append, List.size_toArray, hv, hz, ← Nat.add_mul, show n + (cap - n) = cap by omega]
  · rw [Array.toList_append, List.take_append_of_le_length (by simp [hv])]
    simp [← hv]
theorem rdV_cells {w : World} {ad : Addr} {ls : List Ver} (h : RdV w (some ad) ls) (j : Nat) (u : Value) (hu : (flV ls)[j]? = some u) : w.cell? (ad.add j) = some u := by
  have hj : j < ls.length * 9 := by have := (List.getElem?_eq_some_iff.1 hu).1; rwa [flK_len ver_len] at this
  have hk : j / 9 < ls.length := by omega
  obtain ⟨b, off, e1, -, hc⟩ := h (j / 9) hk
  injection e1 with e1
  subst e1
  have hg := flK_get ver_len ls (j / 9) hk (j % 9) (by omega)
  rw [show j / 9 * 9 + j % 9 = j by omega] at hg
  have := hc (j % 9) u (by rw [← hg]; exact hu)
  have e0 : (⟨b, off, none⟩ : Addr).add j = ⟨b, off + j / 9 * 9 + j % 9, none⟩ := by
    simp only [Addr.add]
    split <;> (simp <;> omega)
  rw [e0]; exact this
/-- 'append(s, v)', s a full slice of versions: all is laid anew. -/
theorem run_appV {w : World} (ty : TypeId) (a : Option Addr) (ls : List Ver) (v : Ver) (h : RdV w a ls) (h0 : a = none → ls = []) (ad : Addr) (c2 : Nat) (hr : ∀ j u, v.cells[j]? = some u → w.cell? (ad.add j) = some u) (hb : ls.length ≤ 100000) (base : Nat) (hB : base ≤ w.heap.size) :
    ∃ v' w', (Builtin.append_ #[38, 38] ty #[.slice a ls.length ls.length, .slice (some ad) 1 c2]).run Tryz.prog w = .ok v' w' ∧ w'.ownsRow base 114 9 v' (ls.length + 1) (flV (ls ++ [v])) ∧ Below w.heap.size w w' := by
  obtain ⟨i0, hi, hiz, his, hib⟩ := info_parts info_ver
  have hml : (100000 : Nat) + 1 ≤ maxLen := by unfold maxLen; omega
  have hfv : flV (ls ++ [v]) = flV ls ++ v.cells := by simp [flV, flK]
  cases a with
  | none =>
    have := h0 rfl
    subst this
    have hrun := run_append_nil (P := Tryz.prog) w 38 ty 114 i0 _ Tryz.underlying38 hi hiz ad 1 c2 v.cells (by rw [his]; rfl) hr (by omega) (by omega) (by rw [hib]; omega)
    refine ⟨_, _, hrun, ?_, (Below.refl _ w).drew.alloc (Nat.le_refl _) _⟩
    rw [hfv]
    exact own_fresh w _ 9 1 _ v.cells _ rfl (zerosV _) (grownCap_ge _ _ _ _) (grownCap_le_maxLen _ _ _ _ (by omega)) base hB
  | some b =>
    have hrun := run_append_grow (P := Tryz.prog) w 38 ty 114 i0 _ Tryz.underlying38 hi hiz b ls.length ls.length (flV ls) (by rw [flK_len ver_len, his]) (rdV_cells h) ad 1 c2 v.cells (by rw [his]; rfl) hr (by omega) (by omega) (growslice_fits (by omega) (by rw [hib]; omega))
    refine ⟨_, _, hrun, ?_, (Below.refl _ w).drew.alloc (Nat.le_refl _) _⟩
    rw [hfv]
    have := own_fresh w 114 9 (ls.length + 1) (grownCap w (ls.length + 1) ls.length 114) (flV ls ++ v.cells) _ (by rw [List.length_append, flK_len ver_len, ver_len]; omega) (zerosV _) (grownCap_ge _ _ _ _) (grownCap_le_maxLen _ _ _ _ (by omega)) base hB
    simpa using this
theorem wp_appV {w : World} {o : Oper} {a : Act} {K : Act → World → Prop} {Q : Exit → Act → World → Prop} (s x : Operand)
    (ho : o.op = .call { callee := .builtin .append, args := #[s, x], argTypes := #[38, 38] }) (sa : Option Addr) (ls : List Ver) (v : Ver) (hs : a.eval s = .slice sa ls.length ls.length) (h : RdV w sa ls) (h0 : sa = none → ls = [])
    (ad : Addr) (c2 : Nat) (hx : a.eval x = .slice (some ad) 1 c2) (hr : ∀ j u, v.cells[j]? = some u → w.cell? (ad.add j) = some u) (hb : ls.length ≤ 100000) (base : Nat) (hB : base ≤ w.heap.size)
    (hk : ∀ v' w', w'.ownsRow base 114 9 v' (ls.length + 1) (flV (ls ++ [v])) → Below w.heap.size w w' → K (a.put o.dst v') w') : o.wp Tryz.prog a w K Q := by
  obtain ⟨v', w', hrun, h2, h3⟩ := run_appV o.type sa ls v h h0 ad c2 hr hb base hB
  unfold Oper.wp execOp
  simp only [ho, resolve, invoke, builtin, Sem.run_bind, Sem.run_pure, Result.andThen_ok, List.map_toArray, List.map_cons, List.map_nil, hs, hx, hrun]
  exact hk v' w' h2 h3
theorem own_capV {w : World} {base e size n c : Nat} {a : Option Addr} {xs : List Value} (h : w.ownsRow base e size (.slice a n c) n xs) : n ≤ c := by
  rcases h.2 with ⟨e0, h0⟩ | ⟨g, cap, cur, e1, -, -, hn, -⟩
  · omega
  · injection e1 with e1 e2 e3; omega
end Go.Proofs.YtackpcohmmlkeaaGreatDoor
end

/- BkU: Stores into a book's own cells. -/
section
namespace Go.Proofs.YtackpcohmmlkeaaGreatDoor
open Go.RowKit
set_option linter.unusedVariables false

theorem region_cutS {P : Program} {c : Code} {a : Act} {w : World} {Q : Exit → Act → World → Prop} {T : Option Addr → Nat → Act} (F : World → Prop) (h : c.wp P (fun e a' w' => e = .normal ∧ ∃ vx vy, a' = T vx vy ∧ F w') a w) (hq : ∀ vx vy w', F w' → Q .normal (T vx vy) w') : c.wp P Q a w :=
  wp_mono h fun e a' w' ⟨he, vx, vy, ha, hf⟩ => by subst he; subst ha; exact hq vx vy w' hf
theorem cell_set {w : World} {B j : Nat} {u : Value} (j' : Nat) (hs : ∃ v, w.cell? ⟨B, j, none⟩ = some v) : (w.setCell ⟨B, j, none⟩ u).cell? ⟨B, j', none⟩ = if j' = j then some u else w.cell? ⟨B, j', none⟩ := by
  by_cases h : j' = j
  · subst h
    rw [if_pos rfl]
    exact World.cell?_setCell_same' _ _ _ (by obtain ⟨v, hv⟩ := hs; rw [hv]; rfl)
  · rw [if_neg h]
    exact World.cell?_setCell_other w ⟨B, j, none⟩ ⟨B, j', none⟩ u (by simp)
theorem set_gb (w : World) (B j : Nat) (u : Value) : w.grownBy (w.setCell ⟨B, j, none⟩ u) (some B) :=
  ⟨rfl, rfl, rfl, by simp, fun k _ hk => mid_heap w B j k u (fun e => hk (by rw [e]))⟩
theorem ch_set {w : World} {B j : Nat} (u : Value) (hj : j < 3) (hs : ∃ v, w.cell? ⟨B, j, none⟩ = some v) : Ch B w (w.setCell ⟨B, j, none⟩ u) :=
  ⟨rfl, rfl, rfl, by simp, fun k o h1 h2 _ => (mid_heap w B j k u h2).trans h1, fun o ho => by rw [cell_set o hs, if_neg (by omega)], fun o => by rw [World.frozen?_setCell], fun k hk => mid_heap w B j k u (by omega)⟩
theorem nt_set {w : World} {B j : Nat} (u : Value) (h : ∃ cur t fz, w.heap[B]? = some (.cells cur t fz) ∧ t ≠ 114) : ∃ cur t fz, (w.setCell ⟨B, j, none⟩ u).heap[B]? = some (.cells cur t fz) ∧ t ≠ 114 := by
  obtain ⟨cur, t, fz, e1, e2⟩ := h
  exact ⟨_, t, fz, mid_self u e1, e2⟩
theorem write_fin {W1 w13 : World} {B : Nat} {l : List Ver} {t n : Int} {x : Ver} {v' : Value} (h1 : BkW W1 B ⟨l, t, n⟩) (hb : Below W1.heap.size W1 w13) (ho : w13.ownsRow (B + 1) 114 9 v' (l.length + 1) (flV (l ++ [x]))) :
    BkW (w13.setCell ⟨B, 0, none⟩ v') B ⟨l ++ [x], t, n⟩ ∧ Ch B W1 (w13.setCell ⟨B, 0, none⟩ v') := by
  have h2 := h1.below hb
  obtain ⟨v0, c0, -⟩ := h2.row
  have hs : ∃ v, w13.cell? ⟨B, 0, none⟩ = some v := ⟨_, c0⟩
  refine ⟨⟨?_, ?_, fun j => by rw [World.frozen?_setCell]; exact h2.fz j, ⟨v', by rw [cell_set 0 hs, if_pos rfl], ?_⟩, nt_set _ h2.nt⟩, (Ch.of_below hb h1.lt).trans (ch_set _ (by omega) hs)⟩
  · rw [cell_set 1 hs, if_neg (by omega)]; exact h2.c1
  · rw [cell_set 2 hs, if_neg (by omega)]; exact h2.c2
  · rw [List.length_append]
    refine ho.kept (set_gb w13 B 0 v') ?_
    rcases ho.2 with ⟨rfl, h0⟩ | ⟨g, cap, cur, rfl, hg, -⟩
    · exact .inl rfl
    · refine .inr (fun e => ?_)
      have : g = B := by simpa [Value.ownBlock] using e
      omega
theorem BkW.setTurn {w : World} {B : Nat} {b : Bk} (h : BkW w B b) (t : Int) : BkW (w.setCell ⟨B, 1, none⟩ (.int .i64 t)) B ⟨b.l, t, b.next⟩ ∧ Ch B w (w.setCell ⟨B, 1, none⟩ (.int .i64 t)) := by
  obtain ⟨v, c0, ho⟩ := h.row
  have hs : ∃ v, w.cell? ⟨B, 1, none⟩ = some v := ⟨_, h.c1⟩
  refine ⟨⟨by rw [cell_set 1 hs, if_pos rfl], by rw [cell_set 2 hs, if_neg (by omega)]; exact h.c2, fun j => by rw [World.frozen?_setCell]; exact h.fz j, ⟨v, by rw [cell_set 0 hs, if_neg (by omega)]; exact c0, ?_⟩, nt_set _ h.nt⟩, ch_set _ (by omega) hs⟩
  refine ho.kept (set_gb w B 1 _) ?_
  rcases ho.2 with ⟨rfl, h0⟩ | ⟨g, cap, cur, rfl, hg, -⟩
  · exact .inl rfl
  · refine .inr (fun e => ?_)
    have : g = B := by simpa [Value.ownBlock] using e
    omega
theorem row_set {w : World} {B X j n : Nat} {v : Value} {l : List Ver} (u : Value) (nt : ∃ cur t fz, w.heap[X]? = some (.cells cur t fz) ∧ t ≠ 114) (ho : w.ownsRow B 114 9 v n (flV l)) :
    (w.setCell ⟨X, j, none⟩ u).ownsRow B 114 9 v n (flV l) := by
  refine ho.kept (set_gb w X j u) ?_
  rcases ho.2 with ⟨rfl, h0⟩ | ⟨g, cap, cur, rfl, hg, hc, -⟩
  · exact .inl rfl
  · refine .inr (fun e => ?_)
    have : g = X := by simpa [Value.ownBlock] using e
    subst this
    obtain ⟨cur', t, fz, e1, e2⟩ := nt
    rw [hc] at e1
    injection e1 with e1
    injection e1 with _ e1
    exact e2 e1.symm
theorem BkW.setNext {w : World} {B : Nat} {b : Bk} (h : BkW w B b) (t : Int) : BkW (w.setCell ⟨B, 2, none⟩ (.int .i64 t)) B ⟨b.l, b.turn, t⟩ ∧ Ch B w (w.setCell ⟨B, 2, none⟩ (.int .i64 t)) := by
  obtain ⟨v, c0, ho⟩ := h.row
  have hs : ∃ v, w.cell? ⟨B, 2, none⟩ = some v := ⟨_, h.c2⟩
  exact ⟨⟨by rw [cell_set 1 hs, if_neg (by omega)]; exact h.c1, by rw [cell_set 2 hs, if_pos rfl], fun j => by rw [World.frozen?_setCell]; exact h.fz j, ⟨v, by rw [cell_set 0 hs, if_neg (by omega)]; exact c0, row_set _ h.nt ho⟩, nt_set _ h.nt⟩, ch_set _ (by omega) hs⟩
/-- A store into a block that is none of the book's. -/
theorem BkW.setOther {w : World} {B X j : Nat} {b : Bk} (u : Value) (h : BkW w B b) (hX : X ≠ B) (nt : ∃ cur t fz, w.heap[X]? = some (.cells cur t fz) ∧ t ≠ 114) : BkW (w.setCell ⟨X, j, none⟩ u) B b := by
  obtain ⟨v, c0, ho⟩ := h.row
  have ho2 : ∀ k, (w.setCell ⟨X, j, none⟩ u).cell? ⟨B, k, none⟩ = w.cell? ⟨B, k, none⟩ := fun k => World.cell?_setCell_other w ⟨X, j, none⟩ ⟨B, k, none⟩ u (by simp)
  refine ⟨(ho2 1).trans h.c1, (ho2 2).trans h.c2, fun k => by rw [World.frozen?_setCell]; exact h.fz k, ⟨v, (ho2 0).trans c0, row_set _ nt ho⟩, ?_⟩
  obtain ⟨cur, t, fz, e1, e2⟩ := h.nt
  exact ⟨cur, t, fz, (mid_heap w X j B u (Ne.symm hX)).trans e1, e2⟩
/-- Stores into blocks of the call's own turn nothing. -/
theorem Ch.fresh {B X j : Nat} {a b : World} (u : Value) (h : Ch B a b) (hX : a.heap.size ≤ X) (hB : B < a.heap.size) : Ch B a (b.setCell ⟨X, j, none⟩ u) :=
  ⟨h.os, h.tape, h.output, by simpa using h.size, fun k o h1 h2 h3 => (mid_heap b X j k u (by have := (Array.getElem?_eq_some_iff.1 h1).1; omega)).trans (h.block k o h1 h2 h3), fun o ho => (World.cell?_setCell_other b ⟨X, j, none⟩ ⟨B, o, none⟩ u (by simp)).trans (h.far o ho), fun o => by rw [World.frozen?_setCell]; exact h.frz o, fun k hk => (mid_heap b X j k u (by omega)).trans (h.low k hk)⟩
theorem flV_set (l : List Ver) (k : Nat) (t : Int) : (flV l).set (k * 9 + 8) (.int .i64 t) = flV (setTo l k t) := by
  refine List.ext_getElem? fun j => ?_
  have hL := flK_len ver_len l
  have hL2 := flK_len ver_len (setTo l k t)
  rw [setTo_len] at hL2
  by_cases hj : j < l.length * 9
  · have hk : j / 9 < l.length := by omega
    have g1 := flK_get ver_len l (j / 9) hk (j % 9) (by omega)
    have g2 := flK_get ver_len (setTo l k t) (j / 9) (by rw [setTo_len]; exact hk) (j % 9) (by omega)
    rw [show j / 9 * 9 + j % 9 = j by omega] at g1 g2
    rw [setTo_get _ _ _ _ hk] at g2
    rw [List.getElem?_set, g2, g1]
    by_cases e : k = j / 9
    · rw [if_pos e]
      by_cases e8 : j % 9 = 8
      · rw [if_pos (by omega), if_pos (by rw [hL]; omega), e8]; rfl
      · rw [if_neg (by omega)]
        have : j % 9 < 8 := by omega
        generalize j % 9 = r at this
        rcases r with _ | _ | _ | _ | _ | _ | _ | _ | r <;> first | rfl | omega
    · rw [if_neg e, if_neg (by omega)]
  · rw [List.getElem?_eq_none (by rw [List.length_set, hL]; omega), List.getElem?_eq_none (by rw [hL2]; omega)]
theorem to_set {w : World} {B g c : Nat} {b : Bk} (h : BkW w B b) (c0 : w.cell? ⟨B, 0, none⟩ = some (.slice (some ⟨g, 0, none⟩) b.l.length c)) (ho : w.ownsRow (B + 1) 114 9 (.slice (some ⟨g, 0, none⟩) b.l.length c) b.l.length (flV b.l)) (k : Nat) (t : Int) :
    BkW (w.setCell ⟨g, k * 9 + 8, none⟩ (.int .i64 t)) B ⟨setTo b.l k t, b.turn, b.next⟩ ∧ Ch B w (w.setCell ⟨g, k * 9 + 8, none⟩ (.int .i64 t)) := by
  rcases ho.2 with ⟨e0, h0⟩ | ⟨g', cap, cur, e1, hB, hc, hn, hm, hs, ht⟩
  · cases e0
  · injection e1 with e1 _ e3
    injection e1 with e1
    injection e1 with e1
    subst e1 e3
    have hgB : g ≠ B := by omega
    have ho2 : ∀ j, (w.setCell ⟨g, k * 9 + 8, none⟩ (.int .i64 t)).cell? ⟨B, j, none⟩ = w.cell? ⟨B, j, none⟩ := fun j => World.cell?_setCell_other w _ ⟨B, j, none⟩ _ (by simp)
    refine ⟨⟨(ho2 1).trans h.c1, (ho2 2).trans h.c2, fun j => by rw [World.frozen?_setCell]; exact h.fz j, ⟨_, (ho2 0).trans c0, ?_⟩, ?_⟩, ?_⟩
    · refine ⟨by rw [flK_len ver_len], .inr ⟨g, c, cur.setIfInBounds (k * 9 + 8) (.int .i64 t), by rw [setTo_len], hB, mid_self _ hc, by rw [setTo_len]; exact hn, hm, by simpa using hs, ?_⟩⟩
      rw [Array.toList_setIfInBounds, List.take_set, setTo_len, ht, flV_set]
    · obtain ⟨cur', t', fz, e1, e2⟩ := h.nt
      exact ⟨cur', t', fz, (mid_heap w g _ B _ (Ne.symm hgB)).trans e1, e2⟩
    · refine ⟨rfl, rfl, rfl, by simp, fun i o h1 h2 h3 => (mid_heap w g _ i _ (fun e => ?_)).trans h1, fun o _ => ho2 o, fun o => by rw [World.frozen?_setCell], fun i hi => mid_heap w g _ i _ (by omega)⟩
      subst e
      rw [hc] at h1
      injection h1 with h1
      exact h3 _ _ h1.symm
end Go.Proofs.YtackpcohmmlkeaaGreatDoor
end
