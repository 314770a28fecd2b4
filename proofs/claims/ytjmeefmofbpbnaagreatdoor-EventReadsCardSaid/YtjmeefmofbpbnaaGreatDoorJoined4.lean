/- Joined: LawLift, DayN. -/
import Derived.WalkKit
import Derived.ProofKit
import Derived.OpenShut
import Derived.ShutString
import Derived.ChangeOld
import Derived.SliceStrings
import Derived.Below
import Derived.Test.YtjmeefmofbpbnaaGreatDoorRows
import Derived.Test.YtjmeefmofbpbnaaGreatDoorBase
import Derived.Test.YtjmeefmofbpbnaaGreatDoorJoined6

section
/- What every law's row of this seat shares. -/
namespace Go.Proofs.YtjmeefmofbpbnaaGreatDoor
open Go.ChangeShapes Go.WideShapes Go.ChangeAt Go.RowKit
open Go.ChangeMaps (open_string)

theorem own : ownKnob Tryz.prog.godebug = none := by kernel_rfl
theorem laidOut : laidOutB Tryz.prog = true := by kernel_rfl

/-- A call that hands back one value; nothing that was there has turned. -/
def Gives (v : Value) (w : World) (e : Ending) (w' : World) : Prop := e = .returned v ∧ Below w.heap.size w w'

theorem trodAll_below {H : Type} {enc : TypeId × Value → H} {P : Program} (hl : laidOutB P = true) {W W' : World} (hb : Below W.heap.size W W') :
    ∀ (ts : List TypeId) (vs : List Value) (ds : List (DataW H)) (ps : List MemPlace), (∀ t ∈ ts, P.readableRec t = true ∧ t < P.types.size) →
    DataW.TrodAll enc P W 0 (fun _ => true) true ts vs ds ps → (∀ x ∈ ps, x.block < W.heap.size) → DataW.TrodAll enc P W' 0 (fun b => decide (b < W.heap.size)) true ts vs ds ps
  | [], vs, ds, ps, _, h, _ => by
    obtain ⟨rfl, rfl, rfl⟩ := trodAll_nil h
    exact trodAll_mk0
  | t :: ts, vs, ds, ps, hr, h, hlt => by
    obtain ⟨v, vs', d, ds', p, q, rfl, rfl, rfl, h1, h2⟩ := trodAll_cons h
    have hr0 := hr t (by simp)
    exact trodAll_cons_mk (Below.trod hl hr0.1 hr0.2 h1 hb (fun x hx => hlt x (by simp [hx]))) (trodAll_below hl hb ts vs' ds' q (fun t ht => hr t (by simp [ht])) h2 (fun x hx => hlt x (by simp [hx])))

/-- A slice of integers that came in, for reading. -/
theorem open_ints_rd {H : Type} {enc : TypeId × Value → H} {P : Program} {W : World} {r : Reach} {base : Nat} {t e : TypeId} {k : IntKind} {v : Value} {d : DataW H} {p : List MemPlace} (ht : P.underlying t = some (.slice e)) (he : P.underlying e = some (.int k)) (hc : P.cellsOf e = 1)
    (hv : Value.okWide P W r base t v) (h : DataW.Trod enc P W 0 (fun _ => true) true t v d p) :
    ∃ a cap, ∃ zs : List Int, v = .slice a zs.length cap ∧ Rd W a (zs.map (Value.int k)) ∧ (∀ n ∈ zs, (Lit.int k n).wf = true) ∧ zs.length ≤ maxLen := by
  obtain ⟨a0, len0, cap0, rfl⟩ := okWide_slice ht hv
  obtain ⟨fuel, hf⟩ := h
  rcases open_ints ht he hc hf with ⟨hcs, _⟩ | ⟨x, l, c, zs, hcs, _, hl, hm, hz, _, hcell, hwz⟩
  · simp [Value.cells] at hcs
    obtain ⟨rfl, rfl, rfl⟩ := hcs
    exact ⟨none, 0, [], rfl, Rd.nil _ _, by simp, by simp [maxLen]⟩
  · simp [Value.cells] at hcs
    obtain ⟨rfl, rfl, rfl⟩ := hcs
    simp at hz
    refine ⟨some x, cap0, zs.take len0, by rw [List.length_take, Nat.min_eq_left (by omega)], ?_, fun n hn => hwz n (List.mem_of_mem_take hn), by rw [List.length_take]; omega⟩
    intro j hj
    simp at hj
    obtain ⟨b, off, spot⟩ := x
    have h0 := hcell j (by omega)
    have hspot : spot = none := by
      have h1 := hcell 0 (by omega)
      simpa [Addr.add] using World.cell?_spot h1
    subst hspot
    refine ⟨b, off, rfl, ?_⟩
    have e0 : (⟨b, off, none⟩ : Addr).add j = ⟨b, off + j, none⟩ := by simp [Addr.add]; try omega
    rw [e0] at h0
    rw [h0]
    have hj2 : j < zs.length := by omega
    simp [List.getD, hj, hj2]

/-- A slice of strings that came in, for reading. -/
theorem open_strs_rd {H : Type} {enc : TypeId × Value → H} {P : Program} {W : World} {r : Reach} {base : Nat} {t e : TypeId} {v : Value} {d : DataW H} {p : List MemPlace} (ht : P.underlying t = some (.slice e)) (he : P.underlying e = some .string) (hc : P.cellsOf e = 1)
    (hv : Value.okWide P W r base t v) (h : DataW.Trod enc P W 0 (fun _ => true) true t v d p) :
    ∃ a cap, ∃ zs : List ByteArray, v = .slice a zs.length cap ∧ Rd W a (zs.map Value.string) ∧ (∀ s ∈ zs, s.size ≤ maxLen) ∧ zs.length ≤ maxLen ∧ zs.length ≤ cap ∧ cap ≤ maxLen := by
  obtain ⟨a0, len0, cap0, rfl⟩ := okWide_slice ht hv
  obtain ⟨fuel, hf⟩ := h
  rcases open_strings ht he hc hf with ⟨hcs, _⟩ | ⟨x, l, c, zs, hcs, _, hl, hm, hz, _, hcell, hwz⟩
  · simp [Value.cells] at hcs
    obtain ⟨rfl, rfl, rfl⟩ := hcs
    exact ⟨none, 0, [], rfl, Rd.nil _ _, by simp, by simp [maxLen], by simp, by simp [maxLen]⟩
  · simp [Value.cells] at hcs
    obtain ⟨rfl, rfl, rfl⟩ := hcs
    simp at hz
    refine ⟨some x, cap0, zs.take len0, by rw [List.length_take, Nat.min_eq_left (by omega)], ?_, fun n hn => hwz n (List.mem_of_mem_take hn), by rw [List.length_take]; omega, by rw [List.length_take]; omega, hm⟩
    intro j hj
    simp at hj
    obtain ⟨b, off, spot⟩ := x
    have h0 := hcell j (by omega)
    have hspot : spot = none := by
      have h1 := hcell 0 (by omega)
      simpa [Addr.add] using World.cell?_spot h1
    subst hspot
    refine ⟨b, off, rfl, ?_⟩
    have e0 : (⟨b, off, none⟩ : Addr).add j = ⟨b, off + j, none⟩ := by simp [Addr.add]; try omega
    rw [e0] at h0
    rw [h0]
    have hj2 : j < zs.length := by omega
    simp [List.getD, hj, hj2]

theorem wf_bounds {n : Int} (h : (Lit.int .i64 n).wf = true) : -9223372036854775808 ≤ n ∧ n ≤ 9223372036854775807 := by
  simpa [Lit.wf, IntKind.min, IntKind.max, IntKind.signed, IntKind.bits] using h

end Go.Proofs.YtjmeefmofbpbnaaGreatDoor
end

section
/- Days: one day and the next; months; the plain part. -/
namespace Go.Proofs.YtjmeefmofbpbnaaGreatDoor.Dy

theorem is_next {n y d : Int} {m : Nat} (h : Is n y m d) (hd : d < len y m) : Is (n + 1) y m (d + 1) := by
  obtain ⟨⟨h1, h2, h3, h4, h5, h6⟩, h7⟩ := h
  simp only [Int.toNat_natCast] at h6
  refine ⟨⟨h1, h2, h3, h4, by omega, by simp only [Int.toNat_natCast]; omega⟩, ?_⟩
  unfold num at *
  omega
theorem is_first {n y d : Int} {m : Nat} (h : Is n y m d) (hd : d = len y m) (hm : m < 12) : Is (n + 1) y (m + 1 : Nat) 1 := by
  obtain ⟨⟨h1, h2, h3, h4, h5, h6⟩, h7⟩ := h
  have hl := len_pos y (m + 1) (by omega) (by omega)
  refine ⟨⟨h1, h2, by omega, by omega, by omega, by simp only [Int.toNat_natCast]; omega⟩, ?_⟩
  unfold num at *
  simp only [Int.toNat_natCast] at *
  rw [ms_succ y m (by omega)]
  omega
theorem is_year {n y d : Int} (h : Is n y 12 d) (hd : d = len y 12) (hy : y < 2200) : Is (n + 1) (y + 1) (1 : Nat) 1 := by
  obtain ⟨⟨h1, h2, h3, h4, h5, h6⟩, h7⟩ := h
  have hl := len_pos (y + 1) 1 (by omega) (by omega)
  refine ⟨⟨by omega, by omega, by omega, by omega, by omega, by simp only [Int.toNat_natCast]; omega⟩, ?_⟩
  have a1 := ms_succ y 12 (by omega)
  have a2 := ms_13 y
  rw [show 12 + 1 = 13 from rfl] at a1
  have a3 := ys_succ y
  unfold num at *
  simp only [Int.toNat_natCast, ms_one] at *
  rw [show (12 : Int).toNat = 12 from rfl] at h7
  omega
theorem is_y {n y m d : Int} (h : Is n y m d) (hn : n ≤ 99999) : y ≤ 2180 := by
  obtain ⟨⟨h1, h2, h3, h4, h5, h6⟩, h7⟩ := h
  have a := ms_le y m.toNat (by omega)
  unfold num at h7
  exact ys_bd y h1 (by omega)

/-- Every day has its parts; the next one's follow from them. -/
theorem next_cases {n y d : Int} {m : Nat} (h : Is n y m d) (hn : n ≤ 99999) :
    (d < len y m ∧ Is (n + 1) y m (d + 1)) ∨ (d = len y m ∧ m < 12 ∧ Is (n + 1) y (m + 1 : Nat) 1) ∨ (d = len y m ∧ m = 12 ∧ Is (n + 1) (y + 1) (1 : Nat) 1) := by
  have hy := is_y h hn
  have h6 := h.1.2.2.2.2.2
  have h4 := h.1.2.2.2.1
  simp only [Int.toNat_natCast] at h6
  by_cases hd : d < len y m
  · exact Or.inl ⟨hd, is_next h hd⟩
  · have e : d = len y m := by omega
    by_cases hm : m < 12
    · exact Or.inr (Or.inl ⟨e, hm, is_first h e hm⟩)
    · have em : m = 12 := by omega
      subst em
      exact Or.inr (Or.inr ⟨e, rfl, is_year h e (by omega)⟩)
theorem parts_nat (k : Nat) (h : (k : Int) ≤ 99999) : ∃ (y d : Int) (m : Nat), Is k y m d := by
  induction k with
  | zero => exact ⟨1900, 1, 1, by constructor <;> decide⟩
  | succ k ih =>
    obtain ⟨y, d, m, hi⟩ := ih (by omega)
    rw [show ((k + 1 : Nat) : Int) = (k : Int) + 1 from by omega]
    rcases next_cases hi (by omega) with ⟨-, h1⟩ | ⟨-, -, h1⟩ | ⟨-, -, h1⟩
    all_goals exact ⟨_, _, _, h1⟩
theorem parts_ex (n : Int) (h0 : 0 ≤ n) (h1 : n ≤ 99999) : ∃ (y d : Int) (m : Nat), Is n y m d := by
  obtain ⟨k, rfl⟩ : ∃ k : Nat, n = k := ⟨n.toNat, by omega⟩
  exact parts_nat k h1

/-- The number of a month. -/
def mo (y m : Int) : Int := (y - 1900) * 12 + m - 1
theorem is_lt {n y m d n' y' m' d' : Int} (h : Is n y m d) (h' : Is n' y' m' d') (hl : mo y m < mo y' m') : n < n' := by
  obtain ⟨⟨h1, h2, h3, h4, h5, h6⟩, h7⟩ := h
  obtain ⟨⟨k1, k2, k3, k4, k5, k6⟩, k7⟩ := h'
  unfold mo at hl
  have a1 := ms_mono y m.toNat 13 (by omega) (by omega) (by omega)
  rw [ms_13] at a1
  have b2 := ms_le y' m'.toNat (by omega)
  unfold num at h7 k7
  by_cases e : y = y'
  · subst e
    have := ms_mono y m.toNat m'.toNat (by omega) (by omega) (by omega)
    omega
  · have := ys_mono (show y < y' by omega)
    omega
theorem mo_mono {n y m d n' y' m' d' : Int} (h : Is n y m d) (h' : Is n' y' m' d') (hl : n ≤ n') : mo y m ≤ mo y' m' := by
  apply Classical.byContradiction
  intro hc
  have := is_lt h' h (by omega)
  omega

theorem month_top (y : Int) (m : Nat) (h1 : 1900 ≤ y) (h3 : 1 ≤ m) (h4 : m ≤ 12) (h : mo y m < 3285) : num y m 1 + len y m ≤ 99985 := by
  unfold mo at h
  unfold num
  simp only [Int.toNat_natCast]
  by_cases e : y = 2173
  · subst e
    have a1 : ms 2173 10 = 273 := by decide
    have a2 := ms_mono 2173 m 10 h3 (by omega) (by omega)
    have a3 : ys 2173 = 99712 := by decide
    omega
  · have a1 := ms_mono y m 13 h3 (by omega) (by omega)
    rw [ms_13] at a1
    have a2 := ys_mono (show y < 2173 by omega)
    have a3 : ys 2173 = 99712 := by decide
    omega

theorem text_back {n : Int} {l : List UInt8} (h : Text n l) : ∃ Y m D : Nat, Is n Y m D ∧ Lib.atoi (l.take 4) = some (Y : Int) ∧ Lib.atoi ((l.drop 5).take 2) = some (m : Int) ∧ Lib.atoi (l.drop 8) = some (D : Int) := by
  obtain ⟨y, d, m, hi, rfl⟩ := h
  obtain ⟨Y, rfl⟩ : ∃ Y : Nat, y = Y := ⟨y.toNat, by have := hi.1.1; omega⟩
  obtain ⟨D, rfl⟩ : ∃ D : Nat, d = D := ⟨d.toNat, by have := hi.1.2.2.2.2.1; omega⟩
  have hlen : ((D : Int)) ≤ 31 := by
    have a1 := hi.1.2.2.2.2.2
    have a2 := len_pos Y m (by have := hi.1.2.2.1; omega) (by have := hi.1.2.2.2.1; omega)
    simp at a1
    omega
  obtain ⟨b1, b2, b3, b4, b5, -⟩ := hi.1
  exact ⟨Y, m, D, hi, atoi_four4 Y (by omega), atoi_two2 m (by omega), atoi_two2 D (by omega)⟩
end Go.Proofs.YtjmeefmofbpbnaaGreatDoor.Dy
end
