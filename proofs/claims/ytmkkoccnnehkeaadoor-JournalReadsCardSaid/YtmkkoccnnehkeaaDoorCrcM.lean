/- The journal's sum: plain laws. -/
import Derived.WalkKit
namespace Go.Proofs.YtmkkoccnnehkeaaDoor.Cr
open Go.RowKit

def poly : Nat := 3988292384
def ones : Nat := 4294967295
theorem poly_val : poly = 3988292384 := rfl
theorem ones_val : ones = 4294967295 := rfl
/-- one bit. -/
def g (x : Nat) : Nat := if x % 2 = 1 then (x / 2) ^^^ poly else x / 2
def gn : Nat → Nat → Nat
  | 0, x => x
  | k + 1, x => g (gn k x)
/-- what is left of a byte. -/
def rem8 (x : Nat) : Nat := gn 8 x
def sstep (c : Nat) (b : UInt8) : Nat := (c / 256) ^^^ rem8 ((c % 256) ^^^ b.toNat)
def crc0 (l : List UInt8) : Nat := l.foldl sstep ones
def crc (l : List UInt8) : Nat := ones - crc0 l

theorem g_lt (x : Nat) (h : x < 4294967296) : g x < 4294967296 := by
  unfold g
  split
  · exact Nat.xor_lt_two_pow (n := 32) (by omega) (by rw [poly_val]; omega)
  · omega
theorem gn_lt (k x : Nat) (h : x < 4294967296) : gn k x < 4294967296 := by
  induction k with
  | zero => exact h
  | succ k ih => exact g_lt _ ih
theorem byte_xor_lt (a b : Nat) (ha : a < 256) (hb : b < 256) : a ^^^ b < 256 := Nat.xor_lt_two_pow (n := 8) ha hb
theorem sstep_lt (c : Nat) (b : UInt8) (h : c < 4294967296) : sstep c b < 4294967296 := by
  unfold sstep
  have h1 := byte_xor_lt (c % 256) b.toNat (by omega) (UInt8.toNat_lt b)
  exact Nat.xor_lt_two_pow (n := 32) (by omega) (gn_lt 8 _ (by omega))
theorem fold_lt (l : List UInt8) : ∀ c, c < 4294967296 → l.foldl sstep c < 4294967296 := by
  induction l with
  | nil => intro c h; exact h
  | cons b l ih => intro c h; exact ih _ (sstep_lt c b h)
theorem crc0_lt (l : List UInt8) : crc0 l < 4294967296 := fold_lt l ones (by rw [ones_val]; omega)
theorem crc0_snoc (l : List UInt8) (b : UInt8) : crc0 (l ++ [b]) = sstep (crc0 l) b := by simp [crc0]
theorem crc_lt (l : List UInt8) : crc l < 4294967296 := by unfold crc; rw [ones_val]; omega
theorem g_odd (y : Nat) (hy : y < 4294967296) (h : y % 2 = 1) : bits .xor .u32 ((y : Int) / 2) 3988292384 = ((g y : Nat) : Int) := by
  have h1 := u32_xor_nat (y / 2) 3988292384 (by omega) (by omega)
  unfold g
  rw [if_pos h, poly_val, ← h1]
  congr 1
theorem g_even (y : Nat) (h : ¬ y % 2 = 1) : (y : Int) / 2 = ((g y : Nat) : Int) := by
  unfold g
  rw [if_neg h]
  omega
theorem val_of {k : IntKind} {a b : Int} (h : a = b) : Value.int k a = .int k b := by rw [h]
theorem sstep_int (c : Nat) (b : UInt8) (hc : c < 4294967296) (r : Nat) (hr : r = rem8 ((c % 256) ^^^ b.toNat)) : bits .xor .u32 ((c : Int) / 256) (r : Int) = ((sstep c b : Nat) : Int) := by
  have h0 := byte_xor_lt (c % 256) b.toNat (by omega) (UInt8.toNat_lt b)
  have h1 := gn_lt 8 ((c % 256) ^^^ b.toNat) (by omega)
  have h2 := u32_xor_nat (c / 256) r (by omega) (by rw [hr]; exact h1)
  unfold sstep
  rw [← hr, ← h2]
  congr 1
theorem low_xor (c : Nat) (b : UInt8) : bits .xor .u8 ((c : Int) % 256) (b.toNat : Int) = (((c % 256) ^^^ b.toNat : Nat) : Int) := by
  have h := u8_xor_nat (c % 256) b.toNat (by omega) (UInt8.toNat_lt b)
  rw [← h]
  congr 1
theorem ones_xor (c : Nat) (h : c < 2 ^ 32) : (2 ^ 32 - 1) ^^^ c = 2 ^ 32 - (c + 1) := by
  apply Nat.eq_of_testBit_eq
  intro i
  rw [Nat.testBit_xor, Nat.testBit_two_pow_sub_one, Nat.testBit_two_pow_sub_succ h]
  by_cases hi : i < 32
  · simp [hi]
  · have : c.testBit i = false := Nat.testBit_lt_two_pow (Nat.lt_of_lt_of_le h (Nat.pow_le_pow_right (by omega) (by omega)))
    simp [hi, this]
theorem turn (c : Nat) (h : c < 4294967296) : bits .xor .u32 IntKind.u32.max (c : Int) = ((ones - c : Nat) : Int) := by
  have h1 := u32_xor_nat 4294967295 c (by omega) h
  have h2 := ones_xor c h
  have e : IntKind.u32.max = ((4294967295 : Nat) : Int) := by rfl
  rw [e, h1, ones_val, show (4294967295 : Nat) = 2 ^ 32 - 1 from rfl, h2]
  congr 1
  omega
/-- a number as four bytes, the least first. -/
def four (u : Nat) : List UInt8 := [UInt8.ofNat (u % 256), UInt8.ofNat (u / 256 % 256), UInt8.ofNat (u / 65536 % 256), UInt8.ofNat (u / 16777216 % 256)]
/-- and back. -/
def get (l : List UInt8) : Nat := (l.getD 0 0).toNat + 256 * (l.getD 1 0).toNat + 65536 * (l.getD 2 0).toNat + 16777216 * (l.getD 3 0).toNat
theorem four_len (u : Nat) : (four u).length = 4 := rfl
theorem get_lt (l : List UInt8) : get l < 4294967296 := by
  unfold get
  have h0 := UInt8.toNat_lt (l.getD 0 0)
  have h1 := UInt8.toNat_lt (l.getD 1 0)
  have h2 := UInt8.toNat_lt (l.getD 2 0)
  have h3 := UInt8.toNat_lt (l.getD 3 0)
  omega
theorem get_four (u : Nat) (h : u < 4294967296) (r : List UInt8) : get (four u ++ r) = u := by
  unfold get four
  simp only [List.cons_append, List.nil_append, List.getD_cons_zero, List.getD_cons_succ, UInt8.toNat_ofNat']
  omega
theorem join4 (a b c d : Nat) (ha : a < 256) (hb : b < 256) (hc : c < 256) (hd : d < 256) :
    bits .or .u32 (bits .or .u32 (bits .or .u32 (a : Int) ((b : Int) * 256)) ((c : Int) * 65536)) ((d : Int) * 16777216) = ((a + 256 * b + 65536 * c + 16777216 * d : Nat) : Int) := by
  have e1 := u32_or_nat a (256 * b) (by omega) (by omega)
  rw [Nat.or_comm, nat_join 8 (256 * b) a (by omega) (by omega)] at e1
  have e2 := u32_or_nat (256 * b + a) (65536 * c) (by omega) (by omega)
  rw [Nat.or_comm, nat_join 16 (65536 * c) (256 * b + a) (by omega) (by omega)] at e2
  have e3 := u32_or_nat (65536 * c + (256 * b + a)) (16777216 * d) (by omega) (by omega)
  rw [Nat.or_comm, nat_join 24 (16777216 * d) (65536 * c + (256 * b + a)) (by omega) (by omega)] at e3
  rw [show ((b : Int) * 256) = ((256 * b : Nat) : Int) from by omega, e1, show ((c : Int) * 65536) = ((65536 * c : Nat) : Int) from by omega, e2, show ((d : Int) * 16777216) = ((16777216 * d : Nat) : Int) from by omega, e3]
  omega
theorem four_val (z : Int) (h0 : 0 ≤ z) (h1 : z < 4294967296) : (#[UInt8.ofNat (z % 256).toNat, UInt8.ofNat (z / 256 % 256).toNat, UInt8.ofNat (z / 65536 % 256).toNat, UInt8.ofNat (z / 16777216).toNat] : Array UInt8) = (four z.toNat).toArray := by
  obtain ⟨u, rfl⟩ := Int.eq_ofNat_of_zero_le h0
  unfold four
  rw [show ((u : Int) % 256).toNat = u % 256 from by omega, show ((u : Int) / 256 % 256).toNat = u / 256 % 256 from by omega, show ((u : Int) / 65536 % 256).toNat = u / 65536 % 256 from by omega,
    show ((u : Int) / 16777216).toNat = u / 16777216 % 256 from by omega, Int.toNat_natCast]
end Go.Proofs.YtmkkoccnnehkeaaDoor.Cr
