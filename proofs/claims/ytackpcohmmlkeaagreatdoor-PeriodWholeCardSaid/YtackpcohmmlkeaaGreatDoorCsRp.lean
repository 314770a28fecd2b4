/- Joined: EvS, EvU, EvW, CsRp. -/
import Derived.Test.YtackpcohmmlkeaaGreatDoorEvt
import Derived.Test.YtackpcohmmlkeaaGreatDoorEvG
import Derived.Test.YtackpcohmmlkeaaGreatDoorStI
import Derived.Shelf.SlSortCmp.KitK
import Derived.Test.YtackpcohmmlkeaaGreatDoorEvL

/- EvS: The order of events; a row of events as the sorts want it. -/
section
namespace Go.Proofs.YtackpcohmmlkeaaGreatDoor
open Go.Shelf Go.RowKit Go.Lib Go.Sort
set_option linter.unusedVariables false
set_option linter.unusedSimpArgs false

def cfE (x y : Evt) : Int := Ev.cmpE x.id x.kind x.day y.id y.kind y.day
abbrev leE : Evt → Evt → Bool := Stb.leOf (ltOf cfE)
theorem leE_iff (x y : Evt) : leE x y = true ↔ (x.day < y.day ∨ (x.day = y.day ∧ (x.kind < y.kind ∨ (x.kind = y.kind ∧ x.id ≤ y.id)))) := by
  simp only [leE, Stb.leOf, ltOf, cfE, Ev.cmpE, Ev.or3, Ev.cmpI]
  by_cases h1 : x.day < y.day
  · simp [h1, show ¬ y.day < x.day by omega]
  · by_cases h2 : y.day < x.day
    · simp [h1, h2]; omega
    · have e : x.day = y.day := by omega
      by_cases h3 : x.kind < y.kind
      · simp [e, h3, show ¬ y.kind < x.kind by omega]
      · by_cases h4 : y.kind < x.kind
        · simp [e, h3, h4]; omega
        · have e2 : x.kind = y.kind := by omega
          by_cases h5 : x.id < y.id
          · simp [e, e2, h5, show ¬ y.id < x.id by omega]; omega
          · by_cases h6 : y.id < x.id
            · simp [e, e2, h5, h6]
            · simp [e, e2, h5, h6]; omega
theorem leE_total : Stb.Total leE := by
  intro x y
  rw [leE_iff, leE_iff]
  omega
theorem leE_trans : Stb.Trans leE := by
  intro x y z
  rw [leE_iff, leE_iff, leE_iff]
  omega

theorem agg_evt : ∀ w, (isAgg 49).run Tryz.prog w = .ok true w := fun w => by simp [go_sem]
theorem size_evt : ∀ w, (Go.sizeOf 49).run Tryz.prog w = .ok 7 w := fun w => by simp [go_sem]
theorem cmp_lays (blk off size : Nat) (w : World) : CmpLays Tryz.prog 52 #[] Evt.cells 7 cfE blk off size w := fun m os dk _ x y =>
  (compare_grow x.id x.kind x.qty x.price x.ofn x.day y.id y.kind y.qty y.price y.ofn y.day x.item y.item _).mono fun _ _ h => h

/-- A row of the call's own, as the sort wants it. -/
theorem holds_of_own {w : World} {g : Nat} {es : List Evt} {cur : Array Value} (hg : w.heap[g]? = some (.cells cur 49 (0, 0))) (ht : cur.toList.take (es.length * 7) = flE es) : HoldsK Evt.cells 7 w g 0 es.toArray := by
  intro j hj
  have hj' : j < es.length * 7 := by simpa using hj
  have e1 : cur[j]? = (flE es)[j]? := by
    rw [← ht, List.getElem?_take_of_lt hj', Array.getElem?_toList]
  rw [flE_get] at e1
  have hi : j / 7 < es.length := by omega
  rw [List.getElem?_eq_getElem hi] at e1
  simp only [Option.bind_some] at e1
  have hm : j % 7 < es[j / 7].cells.length := by rw [cells_len]; omega
  rw [List.getElem?_eq_getElem hm] at e1
  constructor
  · rw [get_flatK _ _ _ _ (by simpa using hj')]
    simp only [World.cell?, hg, id]
    simp only [Nat.zero_add]
    rw [e1]
    simp [hi, hm]
  · simp [World.frozen?, hg]
theorem rdE_of_holds {w : World} {g off cap : Nat} {es : List Evt} (h : HoldsK Evt.cells 7 w g off es.toArray) (hg : g < w.heap.size) : RdE w.heap.size w (.slice (some ⟨g, off, none⟩) es.length cap) es := by
  refine .inr ⟨g, off, cap, rfl, hg, fun i hi j u hu => ?_⟩
  have hj : j < 7 := by
    have := (List.getElem?_eq_some_iff.1 hu).1
    rw [cells_len] at this; exact this
  have := (h (i * 7 + j) (by simp; omega)).1
  rw [get_flatK _ _ _ _ (by simp; omega), ← Nat.add_assoc] at this
  rw [this]
  rw [show (i * 7 + j) / 7 = i by omega, show (i * 7 + j) % 7 = j by omega]
  obtain ⟨hl, rfl⟩ := List.getElem?_eq_some_iff.1 hu
  simp [hi, hl]
theorem below_sort {w W : World} {blk off base : Nat} {d' : Array Evt} (hb : base ≤ blk) (hbw : base ≤ w.heap.size) (h : SWK Evt.cells 7 w blk off d' W) : Below base w W := by
  obtain ⟨n, os, rfl⟩ := h
  refine ⟨rfl, rfl, rfl, size_sortWorldK_c _ _ _ _ _ _ _ _, fun k hk => ?_⟩
  show (((Sort.ahead w n).heap.modify blk _) ++ os)[k]? = _
  rw [Array.getElem?_append, if_pos (by simp only [Array.size_modify]; show k < w.heap.size; omega), Array.getElem?_modify, if_neg (by omega)]
  rfl

theorem rdE_of_own {w : World} {base n : Nat} {v : Value} {es : List Evt} (h : w.ownsRow base 49 7 v n (flE es)) (hn : n = es.length) : RdE w.heap.size w v es := by
  subst hn
  rcases h.2 with ⟨rfl, h0⟩ | ⟨g, cap, cur, rfl, hB, hc, hn, hm, hs, ht⟩
  · exact .inl ⟨rfl, List.length_eq_zero_iff.1 h0⟩
  · exact rdE_of_holds (holds_of_own hc ht) (Array.getElem?_eq_some_iff.1 hc).1
end Go.Proofs.YtackpcohmmlkeaaGreatDoor
end

/- EvU: Events with numbers of their own: their order is one. -/
section
namespace Go.Proofs.YtackpcohmmlkeaaGreatDoor
open Go.RowKit
set_option linter.unusedVariables false

/-- The event of a line's number, if there is one. -/
def evOf (M : List Evt) (z : Int) : Option Evt := M.find? fun e => e.id == z
/-- Numbers are given once. -/
def Uniq (M : List Evt) : Prop := M.Pairwise fun x y => x.id ≠ y.id
theorem Uniq.find {M : List Evt} (h : Uniq M) {e : Evt} (he : e ∈ M) : evOf M e.id = some e := by
  induction M with
  | nil => cases he
  | cons x M ih =>
    rw [evOf, List.find?_cons]
    rcases List.mem_cons.1 he with rfl | he
    · simp
    · have h1 := (List.pairwise_cons.1 h).1 e he
      rw [show (x.id == e.id) = false by simpa using h1]
      exact ih (List.pairwise_cons.1 h).2 he
theorem Uniq.filter {M : List Evt} (h : Uniq M) (p : Evt → Bool) : Uniq (M.filter p) := List.Pairwise.filter p h
theorem ins_perm (x : Evt) (l : List Evt) : (Stb.ins leE x l).Perm (x :: l) := by
  induction l with
  | nil => exact List.Perm.refl _
  | cons y l ih =>
    rw [Stb.ins]
    split
    · exact List.Perm.refl _
    · exact (List.Perm.cons y ih).trans (List.Perm.swap x y l)
theorem isort_perm (l : List Evt) : (Stb.isort leE l).Perm l := by
  induction l with
  | nil => exact List.Perm.refl _
  | cons x l ih => rw [Stb.isort]; exact (ins_perm x _).trans (List.Perm.cons x ih)
theorem leE_anti {x y : Evt} (h1 : leE x y = true) (h2 : leE y x = true) : x.id = y.id := by
  rw [leE_iff] at h1 h2
  omega
theorem Uniq.eq {M : List Evt} (h : Uniq M) {x y : Evt} (hx : x ∈ M) (hy : y ∈ M) (he : x.id = y.id) : x = y := by
  have h1 := h.find hx
  have h2 := h.find hy
  rw [he, h2] at h1
  exact (Option.some.inj h1).symm
/-- In whichever order they are told. -/
theorem isort_same {M T : List Evt} (hu : Uniq M) (hp : T.Perm M) : Stb.isort leE T = Stb.isort leE M := by
  refine List.Perm.eq_of_pairwise (le := fun x y => leE x y = true) ?_ (Stb.isort_sorted leE_total leE_trans T) (Stb.isort_sorted leE_total leE_trans M) (((isort_perm T).trans hp).trans (isort_perm M).symm)
  intro a b ha hb h1 h2
  exact hu.eq (hp.mem_iff.1 ((isort_perm T).mem_iff.1 ha)) ((isort_perm M).mem_iff.1 hb) (leE_anti h1 h2)
theorem ins_filter (p : Evt → Bool) (x : Evt) (l : List Evt) (hs : Stb.Sorted leE l) : (Stb.ins leE x l).filter p = if p x then Stb.ins leE x (l.filter p) else l.filter p := by
  induction l with
  | nil => rw [Stb.ins]; simp only [List.filter_cons, List.filter_nil, Stb.ins]
  | cons y l ih =>
    obtain ⟨h1, h2⟩ := List.pairwise_cons.1 hs
    rw [Stb.ins]
    by_cases hxy : leE x y = true
    · rw [if_pos hxy, List.filter_cons]
      by_cases hpx : p x = true
      · rw [if_pos hpx, if_pos hpx]
        by_cases hpy : p y = true
        · rw [List.filter_cons, if_pos hpy, Stb.ins, if_pos hxy]
        · rw [List.filter_cons, if_neg hpy]
          cases hl : l.filter p with
          | nil => rfl
          | cons z r =>
            have hz : z ∈ l := (List.mem_filter.1 (by rw [hl]; simp : z ∈ l.filter p)).1
            rw [Stb.ins, if_pos (leE_trans x y z hxy (h1 z hz))]
      · rw [if_neg hpx, if_neg hpx]
    · rw [if_neg hxy, List.filter_cons, ih h2]
      by_cases hpx : p x = true
      · rw [if_pos hpx, if_pos hpx]
        by_cases hpy : p y = true
        · rw [if_pos hpy, List.filter_cons, if_pos hpy, Stb.ins, if_neg hxy]
        · rw [if_neg hpy, List.filter_cons, if_neg hpy]
      · rw [if_neg hpx, if_neg hpx, List.filter_cons]
theorem isort_filter (p : Evt → Bool) (l : List Evt) : Stb.isort leE (l.filter p) = (Stb.isort leE l).filter p := by
  induction l with
  | nil => rfl
  | cons x l ih =>
    rw [List.filter_cons, Stb.isort, ins_filter p x _ (Stb.isort_sorted leE_total leE_trans l)]
    by_cases h : p x = true
    · rw [if_pos h, if_pos h, Stb.isort, ih]
    · rw [if_neg h, if_neg h, ih]
end Go.Proofs.YtackpcohmmlkeaaGreatDoor
end

/- EvW: Whether an event may be. -/
section
namespace Go.Proofs.YtackpcohmmlkeaaGreatDoor
open Go.RowKit
set_option linter.unusedVariables false

def Evt.right (e : Evt) : Bool := Ev.rightB e.item.data.toList e.kind e.qty e.price e.ofn e.day
abbrev Evt.key (e : Evt) : List UInt8 := e.item.data.toList
/-- A right event's bounds. -/
theorem right_bd {e : Evt} (h : e.right = true) : e.item.size ≤ 10 ∧ ((e.kind = 1 ∧ 1 ≤ e.qty ∧ e.qty ≤ 100000 ∧ 0 ≤ e.price ∧ e.price ≤ 1000000 ∧ e.ofn = 0) ∨ (e.kind = 2 ∧ e.qty = 0 ∧ 1 ≤ e.price ∧ e.price ≤ 100000000000 ∧ 1 ≤ e.ofn) ∨ (e.kind = 3 ∧ 1 ≤ e.qty ∧ e.qty ≤ 100000 ∧ e.price = 0 ∧ e.ofn = 0) ∨ (e.kind = 4 ∧ 0 ≤ e.qty ∧ e.qty ≤ 100000 ∧ e.price = 0 ∧ e.ofn = 0)) := by
  obtain ⟨h1, -, -, h2⟩ : Ev.RightP _ _ _ _ _ _ := of_decide_eq_true h
  refine ⟨?_, h2⟩
  have := h1.2.1
  simpa using this
end Go.Proofs.YtackpcohmmlkeaaGreatDoor
end

/- CsRp: Events numbered from 1 on, plainly. -/
section
namespace Go.Proofs.YtackpcohmmlkeaaGreatDoor
open Go.RowKit
open Go.Maps (Keyed)
set_option linter.unusedVariables false

/-- Those that may be, numbered from 1 on. -/
def numS (out : List Evt) (e : Evt) : List Evt := if e.right then out ++ [⟨out.length + 1, e.item, e.kind, e.qty, e.price, e.ofn, e.day⟩] else out
def numF (es : List Evt) : List Evt := es.foldl numS []
theorem numF_snoc (es : List Evt) (e : Evt) : numF (es ++ [e]) = numS (numF es) e := by simp [numF]
theorem numS_len (out : List Evt) (e : Evt) : (numS out e).length ≤ out.length + 1 := by unfold numS; split <;> simp
theorem numF_len (es : List Evt) : (numF es).length ≤ es.length := by
  have : ∀ (es out : List Evt), (es.foldl numS out).length ≤ out.length + es.length := by
    intro es
    induction es with
    | nil => intro out; simp
    | cons e es ih => intro out; rw [List.foldl_cons]; have := ih (numS out e); have := numS_len out e; simp only [List.length_cons]; omega
  have := this es []
  simpa [numF] using this
end Go.Proofs.YtackpcohmmlkeaaGreatDoor
end
