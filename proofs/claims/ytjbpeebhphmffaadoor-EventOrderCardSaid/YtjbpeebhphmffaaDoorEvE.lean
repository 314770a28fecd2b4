/- Events held against each other; a text's length; tallymankeep.happened. -/
import Derived.Test.YtjbpeebhphmffaaDoorEvPc
import Derived.Test.YtjbpeebhphmffaaDoorEvPd
import Derived.Laws.StructEq
namespace Go.Proofs.YtjbpeebhphmffaaDoor
open Go.RowKit

theorem ev_eql (i k q p o d i' k' q' p' o' d' : Int) (s s' : ByteArray) (b : Bool) (hb : b = (i == i' && (s.toList == s'.toList && (k == k' && (q == q' && (p == p' && (o == o' && d == d'))))))) (w : World) :
    (Op.equalIn 10000 23 (.agg #[.int .i64 i, .string s, .int .i64 k, .int .i64 q, .int .i64 p, .int .i64 o, .int .i64 d]) (.agg #[.int .i64 i', .string s', .int .i64 k', .int .i64 q', .int .i64 p', .int .i64 o', .int .i64 d'])).run Tryd.prog w = .ok b w := by
  have u3 := Tryd.underlying3
  have a3 := Tryd.isAgg3
  have z3 := Tryd.sizeOf3
  have u9 := Tryd.underlying9
  have a9 := Tryd.isAgg9
  have z9 := Tryd.sizeOf9
  have hS : Tryd.prog.underlying 23 = some (.struct (Tryd.prog.fieldsOf 23)) := by kernel_rfl
  have hp : Tryd.prog.stoodInHeld 23 = false := by kernel_rfl
  rw [show (10000 : Nat) = 9999 + 1 from rfl, run_equalIn_agg w 9999 23 _ _ hS hp]
  simp only [Program.fieldsOf, Tryd.underlying23]
  subst hb
  go_simp
  (repeat' split) <;> simp_all
theorem ev_same (i k q p o d : Int) (s : ByteArray) (w : World) :
    (Op.equalIn 10000 23 (.agg #[.int .i64 i, .string s, .int .i64 k, .int .i64 q, .int .i64 p, .int .i64 o, .int .i64 d]) (.agg #[.int .i64 i, .string s, .int .i64 k, .int .i64 q, .int .i64 p, .int .i64 o, .int .i64 d])).run Tryd.prog w = .ok true w :=
  ev_eql i k q p o d i k q p o d s s true (by simp) w

namespace Ev
theorem text_len {s : List UInt8} {k q p o d : Int} {l : List UInt8} (hR : RightP s k q p o d) (ho : o ≤ 9223372036854775807) (h : Text s k q p o d l) : l.length ≤ 150 := by
  obtain ⟨dl, hd, rfl⟩ := h
  have hdl : dl.length = 10 := by obtain ⟨y, dd, m, -, e⟩ := hd; rw [e]; rfl
  have hn := hR.1.2.1
  have hw : (word k).length ≤ 6 := by
    unfold word
    split
    · simp
    · split
      · simp
      · split <;> simp
  have hm := mon_bd hR
  have hb := num_bd hR ho
  have ht : (tail k q p o).length ≤ 60 := by
    have hp := Mn.prt_len p (by omega) (by omega)
    unfold tail
    split
    · rename_i h1
      have := Nm.itoa_len q (by rw [if_neg (by omega)] at hb; exact hb.1) (by rw [if_neg (by omega)] at hb; exact hb.2)
      simp only [List.length_append, List.length_cons, List.length_nil]; omega
    · split
      · rename_i h1 h2
        have := Nm.itoa_len o (by rw [if_pos h2] at hb; exact hb.1) (by rw [if_pos h2] at hb; exact hb.2)
        simp only [List.length_append, List.length_cons, List.length_nil]; omega
      · rename_i h1 h2
        have := Nm.itoa_len q (by rw [if_neg h2] at hb; exact hb.1) (by rw [if_neg h2] at hb; exact hb.2)
        omega
  simp only [List.length_append, List.length_cons, List.length_nil]
  omega
end Ev

/-- "1900-01-02 in nail 3 at 0.50". -/
def nailS : ByteArray := ⟨#[49, 57, 48, 48, 45, 48, 49, 45, 48, 50, 32, 105, 110, 32, 110, 97, 105, 108, 32, 51, 32, 97, 116, 32, 48, 46, 53, 48]⟩
def nail : ByteArray := ⟨#[110, 97, 105, 108]⟩
theorem nail_reads : Ev.Reads nailS.data.toList nail.data.toList 1 3 50 0 1 := by
  refine ⟨⟨by decide, by decide, by decide, Or.inl (by decide)⟩, by decide, ?_⟩
  refine ⟨[49, 57, 48, 48, 45, 48, 49, 45, 48, 50], ⟨1900, 2, (1 : Nat), ⟨⟨by decide, by decide, by decide, by decide, by decide, by decide⟩, by decide⟩, by decide⟩, ?_⟩
  have e3 : Lib.itoa 3 = [51] := by rw [Lib.itoa, if_neg (by decide), show (3 : Int).toNat = 3 from rfl, Lib.decDigits_one (by decide)]; rfl
  have e50 : Mn.prt 50 = [48, 46, 53, 48] := by rw [Mn.prt, if_neg (by decide), Mn.pr, show (50 : Int).natAbs = 50 from rfl, show 50 / 100 = 0 from rfl, Lib.decDigits_one (by decide)]; rfl
  rw [Ev.tail, if_pos rfl, e3, e50]
  rfl

set_option maxHeartbeats 1000000 in
set_option maxRecDepth 100000 in
theorem happened_any (w : World) (hw : VW w) : Calls Tryd.prog 5 #[] w (Gives (.bool true) w) := by
  have HP := Lib.hid (fun w' (h' : VW w') => parse_event nailS w' h' (by decide))
  have HR := Lib.hid (fun w' (h' : VW w') => print_event 0 nail 1 3 50 0 1 w' h' (by decide) (by decide))
  have hs1 := ev_same 0 1 3 50 0 1 nail
  have hq : (nailS.toList == nailS.toList) = true := by simp
  have e1 : nailS = ⟨#[49, 57, 48, 48, 45, 48, 49, 45, 48, 50, 32, 105, 110, 32, 110, 97, 105, 108, 32, 51, 32, 97, 116, 32, 48, 46, 53, 48]⟩ := rfl
  have e2 : nail = ⟨#[110, 97, 105, 108]⟩ := rfl
  rw [e2] at HR
  rw [e1] at hq
  rw [e2] at hs1
  go_enter Tryd.func5, Tryd.ntmps5
  clear e1 e2
  go_wp2_with fail
  refine (HP.out _ hw).mono ?_
  rintro e w1 ⟨h, hb⟩
  rcases h with ⟨it, k, q, p, o, d, hr, rfl⟩ | ⟨hr, -⟩
  · obtain ⟨ei, rfl, rfl, rfl, rfl, rfl⟩ := Ev.reads_uniq hr nail_reads
    obtain rfl : it = ⟨#[110, 97, 105, 108]⟩ := ByteArray.ext (Array.ext' ei)
    clear hr ei
    have hw1 : VW (w1.alloc (.cells #[.int .i64 0, .string ⟨#[110, 97, 105, 108]⟩, .int .i64 1, .int .i64 3, .int .i64 50, .int .i64 0, .int .i64 1] 23)) := hw.below (hb.new _)
    go_wp2_with fail
    refine (HR.out _ hw1).mono ?_
    rintro e w2 ⟨h, hb2⟩
    rcases h with ⟨l, -, ht, rfl⟩ | ⟨hr, -⟩
    · obtain rfl : l = [49, 57, 48, 48, 45, 48, 49, 45, 48, 50, 32, 105, 110, 32, 110, 97, 105, 108, 32, 51, 32, 97, 116, 32, 48, 46, 53, 48] := Ev.text_uniq ht nail_reads.2.2
      clear ht
      go_wp2_with fail
      go_ret
      exact ⟨rfl, (hb.new _).step hb2⟩
    · exact absurd nail_reads.1 hr
  · exact absurd nail_reads (hr _ _ _ _ _ _)
end Go.Proofs.YtjbpeebhphmffaaDoor
