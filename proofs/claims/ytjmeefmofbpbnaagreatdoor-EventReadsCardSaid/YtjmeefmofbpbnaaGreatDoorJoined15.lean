/- Joined: AtoiX, RefP, OpenE. -/
import Derived.Shelf.Strconv.ErrVarAll
import Derived.Test.YtjmeefmofbpbnaaGreatDoorDayR
import Derived.Test.YtjmeefmofbpbnaaGreatDoorRefO
import Derived.Test.YtjmeefmofbpbnaaGreatDoorOpenS

section
/- strconv.Atoi at every text: a number, and an error or none. -/
namespace Go.Proofs.YtjmeefmofbpbnaaGreatDoor
open Go.RowKit

/-- What the reference's reading of a day asks of the world, beside DW. -/
structure DR (w : World) : Prop where
  dw : DW w
  rng : ∃ tp p, w.var? Tryz.prog "strconv.ErrRange" = some #[.iface tp p]
  most : ∃ m, w.cell? ⟨1, 0, none⟩ = some (.int .i64 m)

theorem gRng : Tryz.prog.globalNamed "strconv.ErrRange" = some 4 := by kernel_rfl
theorem DR.below {w w' : World} (h : DR w) (hb : Below w.heap.size w w') : DR w' := by
  refine ⟨h.dw.below hb, ?_, ?_⟩
  · obtain ⟨tp, p, hs⟩ := h.rng
    exact ⟨tp, p, Joins.var_stays gRng hs hb (Nat.le_refl _)⟩
  · obtain ⟨m, hm⟩ := h.most
    exact ⟨m, by rw [hb.cell (p := ⟨1, 0, none⟩) (cell_lt hm), hm]⟩

def AtoiX (w : World) (e : Ending) (w' : World) : Prop :=
  ∃ (v : Int) (er : Value), e = .returned (.tuple #[.int .i64 v, er]) ∧ (er = .nilIface ∨ ∃ N, er = .iface 107 (.pointer (some ⟨N, 0, none⟩))) ∧ Below w.heap.size w w'

theorem atoi_x (s : ByteArray) (w : World) (hw : DR w) (hl : s.size ≤ 1000) : Calls Tryz.prog 31 #[.string s] w (AtoiX w) := by
  obtain ⟨tp, p, hv⟩ := hw.dw.syn
  obtain ⟨tq, q, hr⟩ := hw.rng
  rcases h : Lib.atoiAll s.data.toList with v | _ | _
  · refine (Tryz.strconv_Atoi_ok s (by omega) v h w).mono ?_
    rintro e w' ⟨rfl, rfl | ⟨t, rfl⟩⟩
    · exact ⟨v, _, rfl, Or.inl rfl, Below.refl _ _⟩
    · exact ⟨v, _, rfl, Or.inl rfl, Lib.bytesWorld_below _ _ _⟩
  · refine (Any.strconv_Atoi_syntax_var Tryz.laysC172 s (by omega) h tp p w hv).mono ?_
    rintro e w' ⟨N, rfl, -, -, hb⟩
    exact ⟨0, _, rfl, Or.inr ⟨N, rfl⟩, hb⟩
  · refine (Any.strconv_Atoi_range_var Tryz.laysC172 s (by omega) h tq q w hr).mono ?_
    rintro e w' ⟨N, rfl, -, -, hb⟩
    exact ⟨_, _, rfl, Or.inr ⟨N, rfl⟩, hb⟩
end Go.Proofs.YtjmeefmofbpbnaaGreatDoor
end

section
/- tallymanref.Parts: what it hands back. -/
namespace Go.Proofs.YtjmeefmofbpbnaaGreatDoor
open Go.RowKit

theorem results_tmp4r {fn : Func} {t u v x : Tmp} (h : fn.results = #[.tmp t, .tmp u, .tmp v, .tmp x]) (tmps : Array Value) (P : Program) (w : World) :
    (results fn tmps).run P w = .ok (.tuple #[tmps.getD t undef, tmps.getD u undef, tmps.getD v undef, tmps.getD x undef]) w := by
  simp [results, h]

set_option maxHeartbeats 400000 in
theorem refParts_bad (n : Int) (w : World) (h : n < 0 ∨ 99999 < n) :
    Calls Tryz.prog 44 #[.int .i64 n] w (Same (.tuple #[.int .i64 0, .int .i64 0, .int .i64 0, .int .i64 1]) w) := by
  have H := Lib.hid h
  clear h
  go_enter Tryz.func44, Tryz.ntmps44
  go_wp2_with fail
  refine (in_no n _ _ _ H.out).mono ?_
  rintro e w1 ⟨rfl, rfl⟩
  go_wp2_with fail
  (try simp only [Exit.inBlock, Exit.then]); refine bodyPost_ret (results_tmp4r rfl _ _ _) rfl ?_
  exact ⟨rfl, rfl⟩

theorem Dy.cum_num (j : Nat) (b : Int) : Dy.num (1900 + (j : Int) / 12) (((j % 12 + 1 : Nat) : Int)) (b + 1) = b + Dy.cum j := by
  unfold Dy.num Dy.cum
  rw [Int.toNat_natCast]
  omega

set_option maxHeartbeats 800000 in
theorem refParts_ok (n : Int) (w : World) (h0 : 0 ≤ n) (h1 : n ≤ 99999) :
    Calls Tryz.prog 44 #[.int .i64 n] w (fun e w' => ∃ (y d : Int) (m : Nat), Dy.Is n y m d ∧ e = .returned (.tuple #[.int .i64 y, .int .i64 m, .int .i64 d, .int .i64 0]) ∧ w = w') := by
  have H0 := Lib.hid h0
  have H1 := Lib.hid h1
  go_enter Tryz.func44, Tryz.ntmps44
  go_wp2_with fail
  refine (in_yes n _ _ _ h0 h1).mono ?_
  rintro e w1 ⟨rfl, rfl⟩
  go_wp2_with fail
  go_loop [0, 6] (fun a k => ∃ (j : Nat) (b : Int), j ≤ 3600 ∧ k = .int .i64 j ∧ a = .int .i64 b ∧ 0 ≤ b ∧ b ≤ 99999 ∧ Hid (b + Dy.cum j = n)) (fun a _ => (intOf a).toNat)
  case atStart => exact ⟨0, n, by omega, rfl, rfl, h0, h1, Lib.hid (by rw [Dy.cum_zero]; omega)⟩
  case round =>
    obtain ⟨j, b, hj, rfl, rfl, hb0, hb1, hb⟩ := hrel
    obtain ⟨Y, hY⟩ : ∃ Y, Y = 1900 + (j : Int) / 12 := ⟨_, rfl⟩
    obtain ⟨m, hm⟩ : ∃ m : Nat, m = j % 12 + 1 := ⟨_, rfl⟩
    have hmi : (j : Int) % 12 + 1 = m := by omega
    have hY0 : 0 ≤ Y ∧ Y ≤ 3000 := by omega
    have hm0 : 1 ≤ m ∧ m ≤ 12 := by omega
    have hl2 := Dy.len_pos Y m hm0.1 hm0.2
    have HC : Hid (Dy.cum (j + 1) = Dy.cum j + Dy.len Y m) := Lib.hid (by rw [Dy.cum_succ, hY, hm])
    have hcall : Hid (∀ w1, Calls Tryz.prog 61 #[.int .i64 (1900 + (j : Int) / 12), .int .i64 ((j : Int) % 12 + 1)] w1 (Same (.int .i64 (Dy.len Y m)) w1)) := Lib.hid (fun w1 => by rw [← hY, hmi]; exact days_any Y m w1 hY0.1 hY0.2 hm0.1 hm0.2)
    have hYb : Hid (Dy.ys Y ≤ 99999) := Lib.hid (by
      have a := hb.out
      have c := Dy.ms_le Y m (by omega)
      unfold Dy.cum at a
      rw [← hY, ← hm] at a
      have := H1.out
      omega)
    have hY9 : Y ≤ 2180 := Dy.ys_bd Y (by omega) hYb.out
    have HIS : Hid (b < Dy.len Y m → Dy.Is n Y m (b + 1)) := Lib.hid (fun hlt => by
      refine ⟨⟨by omega, by omega, by omega, by omega, by omega, by rw [Int.toNat_natCast]; omega⟩, ?_⟩
      rw [hY, hm, Dy.cum_num j b]
      exact hb.out)
    have HY := Lib.hid hY
    have HMI := Lib.hid hmi
    generalize Dy.len Y m = L at hl2 HC hcall HIS
    by_cases hlt : b < L
    · clear hY hm hmi hYb
      go_wp2_with fail
      refine (hcall.out _).mono ?_
      rintro e w1 ⟨rfl, rfl⟩
      go_wp2_with fail
      (try simp only [Exit.inBlock, Exit.then]); refine bodyPost_ret (results_tmp4r rfl _ _ _) rfl ?_
      exact ⟨Y, b + 1, m, HIS.out hlt, by rw [HY.out, ← HMI.out]; rfl, rfl⟩
    · have hj2 : j + 1 ≤ 3600 := by omega
      clear hY hm hmi hYb
      go_wp2_with fail
      refine (hcall.out _).mono ?_
      rintro e w1 ⟨rfl, rfl⟩
      go_wp2_with fail
      refine (hcall.out _).mono ?_
      rintro e w1 ⟨rfl, rfl⟩
      go_wp2_with fail
      go_round
      case rel => exact ⟨j + 1, b - L, by omega, by go_num, rfl, by omega, by omega, Lib.hid (by rw [HC.out, ← hb.out]; omega)⟩
      case measure => simp [intOf]; omega
end Go.Proofs.YtjmeefmofbpbnaaGreatDoor
end

section
/- An event that came in: how it is read. -/
namespace Go.Proofs.YtjmeefmofbpbnaaGreatDoor
open Go.Joins Go.ChangeShapes Go.WideShapes Go.RowKit Go.Deep

set_option maxRecDepth 100000 in
theorem open_event {H : Type} {enc : TypeId × Value → H} {W : World} {base : Nat} {spare : Nat → Bool} {held : Bool} {r : Reach} {b0 : Nat} {v : Value} {d : DataW H} {p : List MemPlace}
    (hv : Value.okWide Tryz.prog W r b0 23 v) (h : DataW.Trod enc Tryz.prog W base spare held 23 v d p) :
    ∃ (i k q pr o dy : Int) (it : ByteArray), v = .agg #[.int .i64 i, .string it, .int .i64 k, .int .i64 q, .int .i64 pr, .int .i64 o, .int .i64 dy] ∧ it.size ≤ maxLen ∧
      (-9223372036854775808 ≤ i ∧ i ≤ 9223372036854775807) ∧ (-9223372036854775808 ≤ k ∧ k ≤ 9223372036854775807) ∧ (-9223372036854775808 ≤ q ∧ q ≤ 9223372036854775807) ∧ (-9223372036854775808 ≤ pr ∧ pr ≤ 9223372036854775807) ∧
      (-9223372036854775808 ≤ o ∧ o ≤ 9223372036854775807) ∧ (-9223372036854775808 ≤ dy ∧ dy ≤ 9223372036854775807) := by
  obtain ⟨v0, v1, v2, v3, v4, v5, v6, y0, y1, y2, y3, y4, y5, y6, n, rfl, -, -, h0, h1, h2, h3, h4, h5, h6⟩ := open_agg7 Tryz.underlying23 (by kernel_rfl) (by kernel_rfl) hv h
  obtain ⟨z0, e0, -, w0⟩ := DataW.trod_int Tryz.underlying3 h0
  obtain ⟨z1, e1, -, w1⟩ := DataW.trod_string Tryz.underlying9 h1
  obtain ⟨z2, e2, -, w2⟩ := DataW.trod_int Tryz.underlying3 h2
  obtain ⟨z3, e3, -, w3⟩ := DataW.trod_int Tryz.underlying3 h3
  obtain ⟨z4, e4, -, w4⟩ := DataW.trod_int Tryz.underlying3 h4
  obtain ⟨z5, e5, -, w5⟩ := DataW.trod_int Tryz.underlying3 h5
  obtain ⟨z6, e6, -, w6⟩ := DataW.trod_int Tryz.underlying3 h6
  simp only [List.cons.injEq, and_true] at e0 e1 e2 e3 e4 e5 e6
  subst e0 e1 e2 e3 e4 e5 e6
  exact ⟨_, _, _, _, _, _, _, rfl, w1, wf_bounds w0, wf_bounds w2, wf_bounds w3, wf_bounds w4, wf_bounds w5, wf_bounds w6⟩
end Go.Proofs.YtjmeefmofbpbnaaGreatDoor
end
