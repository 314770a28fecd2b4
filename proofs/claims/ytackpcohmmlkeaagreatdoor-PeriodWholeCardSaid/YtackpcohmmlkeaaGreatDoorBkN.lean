/- Joined: BkG, BkM, BkN. -/
import Derived.Test.YtackpcohmmlkeaaGreatDoorBkL
import Derived.Test.YtackpcohmmlkeaaGreatDoorCsRp
import Derived.Test.YtackpcohmmlkeaaGreatDoorMp
import Derived.Test.YtackpcohmmlkeaaGreatDoorEvR

/- BkG: A map whatever it holds, in a walk; the book, where other blocks grow. -/
section
namespace Go.Proofs.YtackpcohmmlkeaaGreatDoor
open Go.RowKit
open Go.Maps (Keyed)
set_option linter.unusedVariables false

theorem below_un {w w' : World} (h : Below w.drew.heap.size w.drew w') : Below w.heap.size w w' := ⟨h.os, h.tape, h.output, h.size, h.block⟩
theorem below_gb {H : Nat} {w0 w w' : World} {b : Nat} (h : Below H w0 w) (hg : w.grownBy w' (some b)) (hb : H ≤ b) (hH : H ≤ w.heap.size) : Below H w0 w' :=
  h.trans ⟨hg.os, hg.tape, hg.output, hg.size, fun k hk => hg.block k (by omega) (fun e => by cases e; omega)⟩
theorem own1_cell {w : World} {base n : Nat} {t : TypeId} {v : Value} {vs : List Value} (h : w.ownsRow base t 1 v n vs) (k : Nat) (hk : k < vs.length) (hn : vs.length = n) :
    ∃ g cap, v = .slice (some ⟨g, 0, none⟩) n cap ∧ base ≤ g ∧ w.cell? ⟨g, k, none⟩ = some vs[k] := by
  rcases h.2 with ⟨rfl, h0⟩ | ⟨g, cap, cur, rfl, hB, hc, -, -, -, ht⟩
  · omega
  · refine ⟨g, cap, rfl, hB, ?_⟩
    simp only [World.cell?, hc]
    have e1 : (cur.toList.take (n * 1))[k]? = some vs[k] := by rw [ht]; exact List.getElem?_eq_getElem hk
    rw [List.getElem?_take_of_lt (by omega), Array.getElem?_toList] at e1
    exact e1
theorem as_le {b : Bk} (hI : BkI b) (t : Int) : (b.as t).length ≤ 120 := by
  have h1 : (b.as t).length = ((b.l.filter (knownAt (b.at t))).map Ver.ev).length := (isort_perm _).length_eq
  have h2 := hI.len
  have h3 := List.length_filter_le (knownAt (b.at t)) b.l
  rw [h1, List.length_map]
  omega
abbrev litI (n : Int) : Lit := .int .i64 n
theorem key_int (n : Int) (h : -9223372036854775808 ≤ n ∧ n ≤ 9223372036854775807) : keyOf Tryz.prog 3 (.int .i64 n) = some (litI n) :=
  Go.Maps.keyOf_int_mk Tryz.underlying3 (by simp only [Lit.wf, Bool.and_eq_true, decide_eq_true_eq]; exact h)
theorem zero_bool (w : World) : (zeroValue 4).run Tryz.prog w = .ok (.bool false) w := by kernel_rfl
/-- What is known may be, and has a number of its own. -/
theorem as_ok {b : Bk} (hI : BkI b) (t : Int) : (∀ e ∈ b.as t, 1 ≤ e.id ∧ e.id ≤ b.next ∧ e.right = true) ∧ Uniq (b.as t) := by
  have hp : (b.as t).Perm ((b.l.filter (knownAt (b.at t))).map Ver.ev) := isort_perm _
  constructor
  · intro e he
    have h1 := hp.mem_iff.1 he
    obtain ⟨v, hv, rfl⟩ := List.mem_map.1 h1
    obtain ⟨-, -, -, h4, h5, h6⟩ := hI.ok v (List.mem_filter.1 hv).1
    exact ⟨h4, h5, h6⟩
  · have hu := hI.uniq (b.at t)
    unfold Uniq at hu ⊢
    exact (hp.pairwise_iff (fun h => Ne.symm h)).2 hu
theorem below_own {H base e size n : Nat} {w0 w1 w2 : World} {v : Value} {xs : List Value} (h : Below H w0 w1) (ho : w1.ownsRow base e size v n xs) (hg : w1.grownBy w2 v.ownBlock) (hb : H ≤ base) (hH : H ≤ w1.heap.size) : Below H w0 w2 := by
  refine h.trans ⟨hg.os, hg.tape, hg.output, hg.size, fun k hk => hg.block k (by omega) (fun e => ?_)⟩
  rcases ho.2 with ⟨rfl, -⟩ | ⟨g, cap, cur, rfl, hgb, -⟩
  · simp [Value.ownBlock] at e
  · have : k = g := by simpa [Value.ownBlock] using e
    omega
theorem chBelow {H B : Nat} {w0 w w' : World} (hc : Ch B w w') (h : Below H w0 w) (hB : H ≤ B) : Below H w0 w' :=
  h.trans ⟨hc.os, hc.tape, hc.output, hc.size, fun k hk => hc.low k (by omega)⟩
/-- The book, where a row of another kind has grown. -/
theorem bkW_gb {w w' : World} {B base n : Nat} {b : Bk} {t : TypeId} {vp : Value} {vs : List Value} (h : BkW w B b) (ho : w.ownsRow base t 1 vp n vs) (hg : w.grownBy w' vp.ownBlock) (hB : B < base) (ht : t ≠ 114) : BkW w' B b := by
  have hl := h.lt
  have hne : some B ≠ vp.ownBlock := by
    rcases ho.2 with ⟨rfl, -⟩ | ⟨g, cap, cur, rfl, hgb, -⟩
    · simp [Value.ownBlock]
    · simp only [Value.ownBlock]; intro e; cases e; omega
  have hblk := hg.block B hl hne
  refine ⟨?_, ?_, fun j => ?_, ?_, ?_⟩
  · have := h.c1; simp only [World.cell?] at this ⊢; rw [hblk]; exact this
  · have := h.c2; simp only [World.cell?] at this ⊢; rw [hblk]; exact this
  · have := h.fz j; simp only [World.frozen?] at this ⊢; rw [hblk]; exact this
  · obtain ⟨v, hv, hr⟩ := h.row
    refine ⟨v, by simp only [World.cell?] at hv ⊢; rw [hblk]; exact hv, hr.kept hg ?_⟩
    rcases hr.2 with ⟨rfl, h0⟩ | ⟨g, cap, cur, rfl, hgb, hc, -⟩
    · exact .inl rfl
    · refine .inr (fun e => ?_)
      rcases ho.2 with ⟨rfl, h0⟩ | ⟨g', cap', cur', rfl, hgb', hc', -⟩
      · simp [Value.ownBlock] at e
      · have : g = g' := by simpa [Value.ownBlock] using e
        subst this
        rw [hc] at hc'
        injection hc' with e1
        injection e1 with _ e1
        exact ht e1.symm
  · obtain ⟨cur, t', fz, h1, h2⟩ := h.nt
    exact ⟨cur, t', fz, hblk.trans h1, h2⟩
section
variable {P : Program} {w : World} {ops : Array Oper} {Q : Exit → Act → World → Prop} {rest : List Oper} {o : Oper} {a : Act} {k : TypeId} {z : Value} {b : Nat} {ks : List Lit} {f : Lit → Value}
theorem wpList_lookup_mv (h : MV P k z w b ks f) (hg : o.guard = none) (m x : Operand) (t : TypeId) (hop : o.op = Op.lookup t m x false) (e : TypeId) (K : Keyed P k) (ht : P.underlying t = some (.map k e)) (hz : (zeroValue e).run P w = .ok z w)
    (hm : a.eval m = .map (some b)) (key : Value) (kl : Lit) (hx : a.eval x = key) (hkey : keyOf P k key = some kl) (hK : wpList P ops Q rest (a.put o.dst (f kl)) w) : wpList P ops Q (o :: rest) a w := by
  refine wpList_plain hg fun K' hK' => ?_
  have hrun := MV.get h K ht hz hkey
  unfold Oper.wp
  simp [execOp, hop, hm, hx, hrun, Result.andThen]
  exact hK' _ _ hK
theorem wpList_lookok_mv (h : MV P k z w b ks f) (hg : o.guard = none) (m x : Operand) (t : TypeId) (hop : o.op = Op.lookup t m x true) (e : TypeId) (K : Keyed P k) (ht : P.underlying t = some (.map k e)) (hz : (zeroValue e).run P w = .ok z w)
    (hm : a.eval m = .map (some b)) (key : Value) (kl : Lit) (hx : a.eval x = key) (hkey : keyOf P k key = some kl) (hK : wpList P ops Q rest (a.put o.dst (.tuple #[f kl, .bool (decide (kl ∈ ks))])) w) : wpList P ops Q (o :: rest) a w := by
  refine wpList_plain hg fun K' hK' => ?_
  have hrun := MV.get_ok h K ht hz hkey
  unfold Oper.wp
  simp [execOp, hop, hm, hx, hrun, Result.andThen]
  exact hK' _ _ hK
theorem wpList_update_mv (h : MV P k z w b ks f) (hg : o.guard = none) (m x v : Operand) (t : TypeId) (hop : o.op = Op.mapUpdate t m x v) (e : TypeId) (K : Keyed P k) (ht : P.underlying t = some (.map k e)) (hn : ks.length < maxLen)
    (hm : a.eval m = .map (some b)) (key : Value) (kl : Lit) (hx : a.eval x = key) (u : Value) (hv : a.eval v = u) (hkey : keyOf P k key = some kl)
    (hK : ∀ w', MV P k z w' b (addK ks kl) (upd f kl u) → w.grownBy w' (some b) → wpList P ops Q rest (a.put o.dst undef) w') : wpList P ops Q (o :: rest) a w := by
  refine wpList_plain hg fun K' hK' => ?_
  obtain ⟨w', hrun, h1, h2⟩ := MV.set (val := u) h K ht hn hkey
  unfold Oper.wp
  simp [execOp, hop, hm, hx, hv, hrun, Result.andThen]
  exact hK' _ _ (hK w' h1 h2)
end
end Go.Proofs.YtackpcohmmlkeaaGreatDoor
end

/- BkM: A map, where other blocks grow; the book, where a map grows. -/
section
namespace Go.Proofs.YtackpcohmmlkeaaGreatDoor
open Go.RowKit
open Go.Maps (Keyed)
set_option linter.unusedVariables false

theorem MV.blk {P : Program} {k : TypeId} {z : Value} {w w' : World} {b : Nat} {ks : List Lit} {f : Lit → Value} (h : MV P k z w b ks f) (hb : w'.heap[b]? = w.heap[b]?) : MV P k z w' b ks f := by
  obtain ⟨⟨D, ⟨es, clock, h1, h2⟩, h3⟩, h4, h5⟩ := h
  exact ⟨⟨D, ⟨es, clock, hb.trans h1, h2⟩, h3⟩, h4, h5⟩
theorem MV.isMap {P : Program} {k : TypeId} {z : Value} {w : World} {b : Nat} {ks : List Lit} {f : Lit → Value} (h : MV P k z w b ks f) : ∃ es c, w.heap[b]? = some (.map es c) := by
  obtain ⟨⟨D, ⟨es, clock, h1, h2⟩, h3⟩, h4, h5⟩ := h
  exact ⟨es, clock, h1⟩
theorem MV.ch {P : Program} {k : TypeId} {z : Value} {w w' : World} {b B : Nat} {ks : List Lit} {f : Lit → Value} (h : MV P k z w b ks f) (hc : Ch B w w') (hB : b ≠ B) : MV P k z w' b ks f := by
  obtain ⟨es, c, e⟩ := h.isMap
  exact h.blk ((hc.block b _ e hB (fun cur fz => nofun)).trans e.symm)
/-- The book, where a map has grown. -/
theorem bkW_map {w w' : World} {B bm : Nat} {b : Bk} (h : BkW w B b) (hm : ∃ es c, w.heap[bm]? = some (.map es c)) (hg : w.grownBy w' (some bm)) : BkW w' B b := by
  have hl := h.lt
  obtain ⟨es, c, hm⟩ := hm
  have hne : some B ≠ some bm := by
    intro e
    cases e
    obtain ⟨cur, t, fz, h1, -⟩ := h.nt
    rw [h1] at hm
    cases hm
  have hblk := hg.block B hl hne
  refine ⟨?_, ?_, fun j => ?_, ?_, ?_⟩
  · have := h.c1; simp only [World.cell?] at this ⊢; rw [hblk]; exact this
  · have := h.c2; simp only [World.cell?] at this ⊢; rw [hblk]; exact this
  · have := h.fz j; simp only [World.frozen?] at this ⊢; rw [hblk]; exact this
  · obtain ⟨v, hv, hr⟩ := h.row
    refine ⟨v, by simp only [World.cell?] at hv ⊢; rw [hblk]; exact hv, hr.kept hg ?_⟩
    rcases hr.2 with ⟨rfl, h0⟩ | ⟨g, cap, cur, rfl, hgb, hc, -⟩
    · exact .inl rfl
    · refine .inr (fun e => ?_)
      have : g = bm := by simpa [Value.ownBlock] using e
      subst this
      rw [hc] at hm
      cases hm
  · obtain ⟨cur, t', fz, h1, h2⟩ := h.nt
    exact ⟨cur, t', fz, hblk.trans h1, h2⟩
theorem own_ne {w : World} {base e size n k : Nat} {v : Value} {xs : List Value} (h : w.ownsRow base e size v n xs) (hk : k < base) : some k ≠ v.ownBlock := by
  rcases h.2 with ⟨rfl, -⟩ | ⟨g, cap, cur, rfl, hgb, -⟩
  · simp [Value.ownBlock]
  · simp only [Value.ownBlock]; intro e; cases e; omega
theorem own_gb {w w' : World} {base e size n r : Nat} {v : Value} {xs : List Value} (h : w.ownsRow base e size v n xs) (hg : w.grownBy w' (some r)) (hr : r < base) : w'.ownsRow base e size v n xs := by
  refine h.kept hg ?_
  rcases h.2 with ⟨rfl, h0⟩ | ⟨g, cap, cu, rfl, hb, hc, -⟩
  · exact .inl rfl
  · refine .inr (fun e => ?_)
    have : g = r := by simpa [Value.ownBlock] using e
    omega
theorem left_blk {w w' : World} {b r : Nat} (h1 : w'.heap[b]? = w.heap[b]?) (h2 : w'.heap[r]? = w.heap[r]?) : w'.rangeLeft b r = w.rangeLeft b r := by
  unfold World.rangeLeft
  rw [h1, h2]
theorem cells_at {w : World} {b : Nat} {cs : List Value} {t : TypeId} {fz : Nat × Nat} (h : w.heap[b]? = some (.cells cs.toArray t fz)) : ∀ j u, cs[j]? = some u → w.cell? ((⟨b, 0, none⟩ : Addr).add j) = some u := by
  intro j u hj
  have e : (⟨b, 0, none⟩ : Addr).add j = ⟨b, j, none⟩ := by simp [Addr.add]; omega
  rw [e]
  simp only [World.cell?, h]
  simpa using hj
end Go.Proofs.YtackpcohmmlkeaaGreatDoor
end

/- BkN: A new book; As, by its length alone. -/
section
namespace Go.Proofs.YtackpcohmmlkeaaGreatDoor
open Go.RowKit
open Go.Maps (Keyed)
set_option linter.unusedVariables false

abbrev bookOb : Obj := .cells #[.slice none 0 0, .int .i64 0, .int .i64 0] 40
theorem bkW_new (w : World) : BkW (w.alloc bookOb) w.heap.size bk0 := by
  have hn := World.alloc_heap_new w bookOb
  have hc : ∀ j u, #[Value.slice none 0 0, .int .i64 0, .int .i64 0][j]? = some u → (w.alloc bookOb).cell? ⟨w.heap.size, j, none⟩ = some u := fun j u hu => by simp only [World.cell?, hn]; exact hu
  exact ⟨hc 1 _ rfl, hc 2 _ rfl, fun j => World.frozen?_alloc_new w _ _ _, ⟨_, hc 0 _ rfl, World.ownsRow_nil _ _ _ _⟩, ⟨_, _, _, hn, by decide⟩⟩
theorem Ch.toBelow {B : Nat} {w w' : World} (h : Ch B w w') : Below B w w' := ⟨h.os, h.tape, h.output, h.size, h.low⟩
theorem as_one (B : Nat) (b : Bk) (t : Int) (q : Int) (w : World) (h : BkW w B b) (hI : BkI b) (hq : (b.as t).map Evt.qty = [q]) :
    Calls Tryz.prog 20 #[.pointer (some ⟨B, 0, none⟩), .int .i64 t] w fun x w' => ∃ g c, x = .returned (.slice (some ⟨g, 0, none⟩) 1 c) ∧ w'.cell? ⟨g, 3, none⟩ = some (.int .i64 q) ∧ Below w.heap.size w w' := by
  obtain ⟨e, he, rfl⟩ : ∃ e, b.as t = [e] ∧ e.qty = q := by
    cases h1 : b.as t with
    | nil => rw [h1] at hq; simp at hq
    | cons e r =>
      cases r with
      | nil => rw [h1] at hq; simp at hq; exact ⟨e, rfl, hq⟩
      | cons e2 r => rw [h1] at hq; simp at hq
  refine (as_any B b t w h hI).mono ?_
  rintro x w' ⟨v, rfl, ho, hb⟩
  rw [he] at ho
  rcases ho.2 with ⟨-, h0⟩ | ⟨g, cap, cur, rfl, hB, hc, hn, hm, hs, ht⟩
  · simp at h0
  · refine ⟨g, cap, rfl, ?_, hb⟩
    have h3 : (cur.toList.take ([e].length * 7))[3]? = some (.int .i64 e.qty) := by rw [ht]; rfl
    rw [List.getElem?_take_of_lt (by simp), Array.getElem?_toList] at h3
    simp only [World.cell?, hc]
    exact h3
theorem as_len (B : Nat) (b : Bk) (t : Int) (n : Nat) (w : World) (h : BkW w B b) (hI : BkI b) (he : (b.as t).length = n) :
    Calls Tryz.prog 20 #[.pointer (some ⟨B, 0, none⟩), .int .i64 t] w fun x w' => ∃ a c, x = .returned (.slice a n c) ∧ Below w.heap.size w w' := by
  refine (as_any B b t w h hI).mono ?_
  rintro x w' ⟨v, rfl, ho, hb⟩
  rw [he] at ho
  obtain ⟨a, c, rfl⟩ := own_slice ho
  exact ⟨a, c, rfl, hb⟩
end Go.Proofs.YtackpcohmmlkeaaGreatDoor
end
