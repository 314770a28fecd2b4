/- Joined: LawLift, DayX, CostEmptiesLaid. -/
import Derived.WalkKit
import Derived.ProofKit
import Derived.OpenShut
import Derived.ShutString
import Derived.ChangeOld
import Derived.SliceStrings
import Derived.Below
import Derived.Test.YtefbedineniejaaDoorRows
import Derived.Test.YtefbedineniejaaDoorBase
import Derived.Lib.Atoi
import Derived.Lib.ItoaNum
import Derived.Test.YtefbedineniejaaDoorJoined3
import Derived.Stop.LaidErr
import Derived.Lib.LaidTab
import Derived.LaidLaws
import Derived.LaidHandle
import Derived.Test.YtefbedineniejaaDoorCards
import Derived.Test.YtefbedineniejaaDoorTie

section
/- What every law's row of this seat shares. -/
namespace Go.Proofs.YtefbedineniejaaDoor
open Go.ChangeShapes Go.WideShapes Go.ChangeAt Go.RowKit
open Go.ChangeMaps (open_string)

theorem own : ownKnob Tryd.prog.godebug = none := by kernel_rfl
theorem laidOut : laidOutB Tryd.prog = true := by kernel_rfl

/-- A call that hands back one value; nothing that was there has turned. -/
def Gives (v : Value) (w : World) (e : Ending) (w' : World) : Prop := e = .returned v ∧ Below w.heap.size w w'

theorem trodAll_below {H : Type} {enc : TypeId × Value → H} {P : Program} (hl : laidOutB P = true) {W W' : World} (hb : Below W.heap.size W W') :
    ∀ (ts : List TypeId) (vs : List Value) (ds : List (DataW H)) (ps : List MemPlace), (∀ t ∈ ts, P.readableRec t = true ∧ t < P.types.size) →
    DataW.TrodAll enc P W 0 (fun _ => true) true ts vs ds ps → (∀ x ∈ ps, x.block < W.heap.size) → DataW.TrodAll enc P W' 0 (fun b => decide (b < W.heap.size)) true ts vs ds ps
  | [], vs, ds, ps, _, h, _ => by
    obtain ⟨rfl, rfl, rfl⟩ := trodAll_nil h
    exact trodAll_mk0
  | t :: ts, vs, ds, ps, hr, h, hlt => by
    obtain ⟨v, vs', d, ds', p, q, rfl, rfl, rfl, h1, h2⟩ := trodAll_cons h
    have hr0 := hr t (by simp)
    exact trodAll_cons_mk (Below.trod hl hr0.1 hr0.2 h1 hb (fun x hx => hlt x (by simp [hx]))) (trodAll_below hl hb ts vs' ds' q (fun t ht => hr t (by simp [ht])) h2 (fun x hx => hlt x (by simp [hx])))

/-- A slice of integers that came in, for reading. -/
theorem open_ints_rd {H : Type} {enc : TypeId × Value → H} {P : Program} {W : World} {r : Reach} {base : Nat} {t e : TypeId} {k : IntKind} {v : Value} {d : DataW H} {p : List MemPlace} (ht : P.underlying t = some (.slice e)) (he : P.underlying e = some (.int k)) (hc : P.cellsOf e = 1)
    (hv : Value.okWide P W r base t v) (h : DataW.Trod enc P W 0 (fun _ => true) true t v d p) :
    ∃ a cap, ∃ zs : List Int, v = .slice a zs.length cap ∧ Rd W a (zs.map (Value.int k)) ∧ (∀ n ∈ zs, (Lit.int k n).wf = true) ∧ zs.length ≤ maxLen := by
  obtain ⟨a0, len0, cap0, rfl⟩ := okWide_slice ht hv
  obtain ⟨fuel, hf⟩ := h
  rcases open_ints ht he hc hf with ⟨hcs, _⟩ | ⟨x, l, c, zs, hcs, _, hl, hm, hz, _, hcell, hwz⟩
  · simp [Value.cells] at hcs
    obtain ⟨rfl, rfl, rfl⟩ := hcs
    exact ⟨none, 0, [], rfl, Rd.nil _ _, by simp, by simp [maxLen]⟩
  · simp [Value.cells] at hcs
    obtain ⟨rfl, rfl, rfl⟩ := hcs
    simp at hz
    refine ⟨some x, cap0, zs.take len0, by rw [List.length_take, Nat.min_eq_left (by omega)], ?_, fun n hn => hwz n (List.mem_of_mem_take hn), by rw [List.length_take]; omega⟩
    intro j hj
    simp at hj
    obtain ⟨b, off, spot⟩ := x
    have h0 := hcell j (by omega)
    have hspot : spot = none := by
      have h1 := hcell 0 (by omega)
      simpa [Addr.add] using World.cell?_spot h1
    subst hspot
    refine ⟨b, off, rfl, ?_⟩
    have e0 : (⟨b, off, none⟩ : Addr).add j = ⟨b, off + j, none⟩ := by simp [Addr.add]; try omega
    rw [e0] at h0
    rw [h0]
    have hj2 : j < zs.length := by omega
    simp [List.getD, hj, hj2]

/-- A slice of strings that came in, for reading. -/
theorem open_strs_rd {H : Type} {enc : TypeId × Value → H} {P : Program} {W : World} {r : Reach} {base : Nat} {t e : TypeId} {v : Value} {d : DataW H} {p : List MemPlace} (ht : P.underlying t = some (.slice e)) (he : P.underlying e = some .string) (hc : P.cellsOf e = 1)
    (hv : Value.okWide P W r base t v) (h : DataW.Trod enc P W 0 (fun _ => true) true t v d p) :
    ∃ a cap, ∃ zs : List ByteArray, v = .slice a zs.length cap ∧ Rd W a (zs.map Value.string) ∧ (∀ s ∈ zs, s.size ≤ maxLen) ∧ zs.length ≤ maxLen ∧ zs.length ≤ cap ∧ cap ≤ maxLen := by
  obtain ⟨a0, len0, cap0, rfl⟩ := okWide_slice ht hv
  obtain ⟨fuel, hf⟩ := h
  rcases open_strings ht he hc hf with ⟨hcs, _⟩ | ⟨x, l, c, zs, hcs, _, hl, hm, hz, _, hcell, hwz⟩
  · simp [Value.cells] at hcs
    obtain ⟨rfl, rfl, rfl⟩ := hcs
    exact ⟨none, 0, [], rfl, Rd.nil _ _, by simp, by simp [maxLen], by simp, by simp [maxLen]⟩
  · simp [Value.cells] at hcs
    obtain ⟨rfl, rfl, rfl⟩ := hcs
    simp at hz
    refine ⟨some x, cap0, zs.take len0, by rw [List.length_take, Nat.min_eq_left (by omega)], ?_, fun n hn => hwz n (List.mem_of_mem_take hn), by rw [List.length_take]; omega, by rw [List.length_take]; omega, hm⟩
    intro j hj
    simp at hj
    obtain ⟨b, off, spot⟩ := x
    have h0 := hcell j (by omega)
    have hspot : spot = none := by
      have h1 := hcell 0 (by omega)
      simpa [Addr.add] using World.cell?_spot h1
    subst hspot
    refine ⟨b, off, rfl, ?_⟩
    have e0 : (⟨b, off, none⟩ : Addr).add j = ⟨b, off + j, none⟩ := by simp [Addr.add]; try omega
    rw [e0] at h0
    rw [h0]
    have hj2 : j < zs.length := by omega
    simp [List.getD, hj, hj2]

theorem wf_bounds {n : Int} (h : (Lit.int .i64 n).wf = true) : -9223372036854775808 ≤ n ∧ n ≤ 9223372036854775807 := by
  simpa [Lit.wf, IntKind.min, IntKind.max, IntKind.signed, IntKind.bits] using h

end Go.Proofs.YtefbedineniejaaDoor
end

section
/- Days as text: the plain part. -/
namespace Go.Proofs.YtefbedineniejaaDoor.Dy

def dg (k : Nat) : UInt8 := UInt8.ofNat (48 + k)
def two2 (n : Nat) : List UInt8 := [dg (n / 10), dg (n % 10)]
def four4 (n : Nat) : List UInt8 := [dg (n / 1000), dg (n / 100 % 10), dg (n / 10 % 10), dg (n % 10)]
def txt (y m d : Nat) : List UInt8 := four4 y ++ [45] ++ two2 m ++ [45] ++ two2 d
/-- l is how the day n is written. -/
def Text (n : Int) (l : List UInt8) : Prop := ∃ (y d : Int) (m : Nat), Is n y m d ∧ l = txt y.toNat m d.toNat

theorem dec4 (n : Nat) (h1 : 1000 ≤ n) (h2 : n < 10000) : Lib.decDigits n = four4 n := by
  rw [Lib.decDigits, dif_neg (by omega), Lib.decDigits, dif_neg (by omega), Lib.decDigits_two (by omega) (by omega)]
  simp only [four4, dg, List.cons_append, List.nil_append, Nat.div_div_eq_div_mul]
theorem dec2 (n : Nat) (h1 : ¬ n < 10) (h2 : n < 100) : Lib.decDigits n = two2 n := Lib.decDigits_two h1 h2
theorem dec1 (n : Nat) (h1 : n < 10) : [48] ++ Lib.decDigits n = two2 n := by
  rw [Lib.decDigits_one h1, two2, Nat.div_eq_of_lt h1, Nat.mod_eq_of_lt h1]; rfl
theorem digitVal_dg (k : Nat) (h : k < 10) : Lib.digitVal (dg k) = some k := by
  unfold Lib.digitVal dg
  rw [UInt8.toNat_ofNat', if_pos (by omega)]
  congr 1
  omega
theorem dg_ne (k : Nat) (h : k < 10) (c : UInt8) (hc : c.toNat < 48) : dg k ≠ c := by
  intro e
  have := congrArg UInt8.toNat e
  unfold dg at this
  rw [UInt8.toNat_ofNat'] at this
  omega
theorem atoi_two2 (n : Nat) (h : n < 100) : Lib.atoi (two2 n) = some (n : Int) := by
  have a1 := dg_ne (n / 10) (by omega) 45 (by decide)
  have a2 := dg_ne (n / 10) (by omega) 43 (by decide)
  simp only [two2, Lib.atoi, beq_iff_eq, if_neg a1, if_neg a2, Lib.decNat, List.isEmpty_cons, Lib.decFrom, digitVal_dg _ (show n / 10 < 10 by omega), digitVal_dg _ (show n % 10 < 10 by omega)]
  simp
  omega
theorem atoi_four4 (n : Nat) (h : n < 10000) : Lib.atoi (four4 n) = some (n : Int) := by
  have a1 := dg_ne (n / 1000) (by omega) 45 (by decide)
  have a2 := dg_ne (n / 1000) (by omega) 43 (by decide)
  simp only [four4, Lib.atoi, beq_iff_eq, if_neg a1, if_neg a2, Lib.decNat, List.isEmpty_cons, Lib.decFrom, digitVal_dg _ (show n / 1000 < 10 by omega), digitVal_dg _ (show n / 100 % 10 < 10 by omega), digitVal_dg _ (show n / 10 % 10 < 10 by omega), digitVal_dg _ (show n % 10 < 10 by omega)]
  simp
  omega
theorem txt_len (y m d : Nat) : (txt y m d).length = 10 := rfl
theorem text_uniq {n : Int} {l l' : List UInt8} (h : Text n l) (h' : Text n l') : l = l' := by
  obtain ⟨y, d, m, hi, rfl⟩ := h
  obtain ⟨y', d', m', hi', rfl⟩ := h'
  obtain ⟨rfl, e, rfl⟩ := is_uniq hi hi'
  obtain rfl : m = m' := by omega
  rfl
end Go.Proofs.YtefbedineniejaaDoor.Dy
end

section
/- What the laid variables of the law CostEmpties's row give the walks; a start that holds them. -/
namespace Go.Proofs.YtefbedineniejaaDoor.costEmpties
open Go.ChangeShapes Go.WideShapes Go.ChangeAt Go.RowKit
theorem plain_of {W : World} (h : laidMetH Tryd.prog Rows.costEmptiesRow.laid W) : laidMet Tryd.prog [("unicode/utf8.acceptRanges", Rows.laid_unicode_utf8_acceptRanges), ("unicode/utf8.first", Rows.laid_unicode_utf8_first)] W := h

/-- A table's cells, as a row lists it. -/
def flatCells (d : DataW Unit) : Array Value := match d with
  | .agg ps => (ps.flatMap fun p => match p with
    | .lit (.int k z) => [Value.int k z]
    | .lit (.string b) => [Value.string ⟨b.toArray⟩]
    | .agg qs => qs.map fun q => match q with
      | .lit (.int k z) => Value.int k z
      | _ => undef
    | _ => [undef]).toArray
  | _ => #[]
def put (cs : Array Value) (o : Obj) : Obj := match o with
  | .cells _ t frozen => .cells cs t frozen
  | o => o
noncomputable def lowB : Nat := (World.holding Tryd.prog default ⟨#[], #[], []⟩).heap.size
/-- A start that holds what the list tells. -/
noncomputable def laidWorld (os : Os) : World :=
  let w0 := World.holding Tryd.prog os ⟨#[], #[], []⟩
  { w0 with heap := ((w0.heap.modify 2 (put (flatCells Rows.laid_unicode_utf8_acceptRanges))).modify 1 (put (flatCells Rows.laid_unicode_utf8_first))) }
theorem laid_plain (os : Os) (args : Array Value) : laidMet Tryd.prog [("unicode/utf8.acceptRanges", Rows.laid_unicode_utf8_acceptRanges), ("unicode/utf8.first", Rows.laid_unicode_utf8_first)] ((laidWorld os).forCall (fun _ _ => 0) ⟨#[], args, []⟩).memory :=
  laidMet_of_run' 8 (by kernel_rfl) (by kernel_rfl)
theorem laid_met (os : Os) (args : Array Value) : laidMetH Tryd.prog Rows.costEmptiesRow.laid ((laidWorld os).forCall (fun _ _ => 0) ⟨#[], args, []⟩).memory := laid_plain os args
end Go.Proofs.YtefbedineniejaaDoor.costEmpties
end
