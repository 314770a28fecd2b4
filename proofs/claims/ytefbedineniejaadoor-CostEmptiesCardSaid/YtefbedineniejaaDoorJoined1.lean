/- Joined: Since, MoneyB, OpenE. -/
import Derived.Deep.QuietTactic
import Derived.BigQuiet
import Derived.Test.YtefbedineniejaaDoorBase
import Derived.Test.YtefbedineniejaaDoorMoneyR
import Derived.Test.YtefbedineniejaaDoorOpenS

section
/- A region that draws its order, whose operations only read, and whose callees leave all that lay there as it was: walked once. -/
namespace Go.Proofs.YtefbedineniejaaDoor
open Go.RowKit

/-- A world in which all that lay in w lies as it lay. -/
structure Since (w : World) where
  w' : World
  h : Below w.heap.size w w'

instance (w : World) : Inhabited (Since w) := ⟨⟨w, Below.refl _ _⟩⟩

theorem wp_region_since {P : Program} {id : Nat} {Q : Exit → Act → World → Prop} {a : Act} {w : World} {l : List Oper} (hm : P.follows .mixedOrders = true) (hB : Region.lexB .any l.toArray = true)
    (h : wpQuiet P l.toArray (fun w' => ∃ p : Since w, w' = p.w') (fun a' => ∀ w', (∃ p : Since w, w' = p.w') → Q .normal a' w') l a) : (Code.region id l.toArray true).wp P Q a w :=
  wp_region_quiet (C := fun w' => ∃ p : Since w, w' = p.w') hm hB ⟨⟨w.drew, below_drewN (Below.refl _ _) 1⟩, rfl⟩ (by simpa using h)

theorem Calls.since_of {P : Program} {f : FuncId} {args : Array Value} {w : World} {p : Since w} {v : Value} (h : Calls P f args p.w' fun e w'' => e = .returned v ∧ Below p.w'.heap.size p.w' w'') :
    Calls P f args p.w' fun e w'' => e = .returned v ∧ ∃ q : Since w, w'' = q.w' :=
  h.mono fun _ w'' ⟨he, hb⟩ => ⟨he, ⟨w'', p.h.step hb⟩, rfl⟩
theorem Calls.since_same {P : Program} {f : FuncId} {args : Array Value} {w : World} {p : Since w} {v : Value} (h : Calls P f args p.w' fun e w'' => e = .returned v ∧ w'' = p.w') :
    Calls P f args p.w' fun e w'' => e = .returned v ∧ ∃ q : Since w, w'' = q.w' :=
  h.mono fun _ _ ⟨he, hb⟩ => ⟨he, p, hb⟩
theorem Since.cells {w : World} (p : Since w) (b o : Nat) (h : b < w.heap.size) : p.w'.cell? ⟨b, o, none⟩ = w.cell? ⟨b, o, none⟩ := p.h.cell (p := ⟨b, o, none⟩) h
end Go.Proofs.YtefbedineniejaaDoor
end

section
/- Amounts: what is written is read again. -/
namespace Go.Proofs.YtefbedineniejaaDoor.Mn

theorem isDg_of {d : Nat} (h : d < 10) : isDg (UInt8.ofNat (48 + d)) = true := by
  unfold isDg
  rw [decide_eq_true_eq, UInt8.toNat_ofNat']
  omega
theorem dig_val {d : Nat} (h : d < 10) : ((UInt8.ofNat (48 + d)).toNat : Int) - 48 = d := by
  rw [UInt8.toNat_ofNat']; omega
theorem pstep_dig (st : Int × Nat) {d : Nat} (h : d < 10) (hs : st.2 < 16) : pstep st (UInt8.ofNat (48 + d)) = (st.1 * 10 + d, st.2 + 1) := by
  rw [pstep, if_pos (by rw [Bool.and_eq_true]; exact ⟨isDg_of h, by simpa using hs⟩), dig_val h]
theorem fold_dec (u : Nat) : ∀ st : Int × Nat, st.2 + Lib.nDigits u ≤ 16 → (Lib.decDigits u).foldl pstep st = (st.1 * 10 ^ Lib.nDigits u + u, st.2 + Lib.nDigits u) := by
  induction u using Nat.strongRecOn with
  | _ u ih =>
    intro st hs
    by_cases h : u < 10
    · rw [Lib.decDigits_one h, Lib.nDigits_small h] at *
      rw [List.foldl_cons, List.foldl_nil, pstep_dig st h (by omega)]
      simp
    · rw [Lib.decDigits, dif_neg h, List.foldl_append]
      rw [Lib.nDigits_big h] at hs ⊢
      rw [ih (u / 10) (by omega) st (by omega), List.foldl_cons, List.foldl_nil, pstep_dig _ (by omega) (by simp; omega)]
      simp only [Prod.mk.injEq]
      refine ⟨?_, by omega⟩
      rw [Int.pow_succ, Int.add_mul, Int.mul_assoc]
      omega
theorem nDigits_le (k u : Nat) (h : u < 10 ^ k) (hk : 1 ≤ k) : Lib.nDigits u ≤ k := by
  induction k generalizing u with
  | zero => omega
  | succ k ih =>
    by_cases h1 : u < 10
    · rw [Lib.nDigits_small h1]; omega
    · rw [Lib.nDigits_big h1]
      by_cases hk0 : k = 0
      · subst hk0; simp at h; omega
      · have := ih (u / 10) (by rw [Nat.pow_succ] at h; omega) (by omega)
        omega
theorem fold_pr (U : Nat) (h : U < 10 ^ 15) (st : Int × Nat) (h0 : st = (0, 0)) : (pr U).foldl pstep st = ((U : Int), Lib.nDigits (U / 100) + 2) := by
  subst h0
  have hn := nDigits_le 13 (U / 100) (by omega) (by omega)
  rw [pr, List.foldl_append, fold_dec _ _ (by simp; omega)]
  simp only [List.foldl_cons, List.foldl_nil]
  have e46 : ∀ s : Int × Nat, pstep s 46 = s := fun s => by rw [pstep, if_neg (by simp [isDg])]
  rw [e46, pstep_dig (d := U / 10 % 10) _ (by omega) (show 0 + Lib.nDigits (U / 100) < 16 by omega), pstep_dig (d := U % 10) _ (by omega) (show 0 + Lib.nDigits (U / 100) + 1 < 16 by omega)]
  simp
  omega
theorem pst_prt (n : Int) (h : n.natAbs < 10 ^ 15) : (pst (prt n)).1 = n.natAbs := by
  unfold pst prt
  by_cases hn : n < 0
  · rw [if_pos hn, List.foldl_cons, show pstep (0, 0) 45 = (0, 0) from by rw [pstep, if_neg (by simp [isDg])], fold_pr _ h _ rfl]
  · rw [if_neg hn, fold_pr _ h _ rfl]
theorem dec_head (u : Nat) : ∃ d r, d < 10 ∧ Lib.decDigits u = UInt8.ofNat (48 + d) :: r := by
  induction u using Nat.strongRecOn with
  | _ u ih =>
    by_cases h : u < 10
    · exact ⟨u, [], h, Lib.decDigits_one h⟩
    · obtain ⟨d, r, hd, e⟩ := ih (u / 10) (by omega)
      exact ⟨d, r ++ [UInt8.ofNat (48 + u % 10)], hd, by rw [Lib.decDigits, dif_neg h, e]; rfl⟩
theorem prt_head (n : Int) : (prt n).head? = some 45 ↔ n < 0 := by
  unfold prt
  by_cases hn : n < 0
  · simp [hn]
  · rw [if_neg hn]
    obtain ⟨d, r, hd, e⟩ := dec_head (n.natAbs / 100)
    rw [pr, e]
    constructor
    · intro h
      simp only [List.cons_append, List.head?_cons, Option.some.injEq] at h
      have h2 := congrArg UInt8.toNat h
      rw [UInt8.toNat_ofNat'] at h2
      have : UInt8.toNat 45 = 45 := rfl
      omega
    · intro h; exact absurd h hn
theorem pv_prt (n : Int) (h : n.natAbs < 10 ^ 15) : pv (prt n) = n := by
  unfold pv
  rw [pst_prt n h]
  by_cases hn : n < 0
  · rw [if_pos ((prt_head n).2 hn)]; omega
  · rw [if_neg (fun h => hn ((prt_head n).1 h))]; omega
theorem parse_prt (n : Int) (h1 : -1000000000000 ≤ n) (h2 : n ≤ 1000000000000) : parse (prt n) = some n := by
  unfold parse
  rw [pv_prt n (by omega), if_pos ⟨h1, h2, rfl⟩]
theorem parse_back {l : List UInt8} {v : Int} (h : parse l = some v) : prt v = l ∧ -1000000000000 ≤ v ∧ v ≤ 1000000000000 := by
  unfold parse at h
  split at h
  · rename_i hc
    cases h
    exact ⟨hc.2.2, hc.1, hc.2.1⟩
  · cases h
theorem prt_len (n : Int) (h1 : -1000000000000 ≤ n) (h2 : n ≤ 1000000000000) : (prt n).length ≤ 30 := by
  have hn := nDigits_le 13 (n.natAbs / 100) (by omega) (by omega)
  unfold prt pr
  split <;> simp [Lib.decDigits_length] <;> omega
end Go.Proofs.YtefbedineniejaaDoor.Mn
end

section
/- An event that came in: how it is read. -/
namespace Go.Proofs.YtefbedineniejaaDoor
open Go.Joins Go.ChangeShapes Go.WideShapes Go.RowKit Go.Deep

set_option maxRecDepth 100000 in
theorem open_event {H : Type} {enc : TypeId × Value → H} {W : World} {base : Nat} {spare : Nat → Bool} {held : Bool} {r : Reach} {b0 : Nat} {v : Value} {d : DataW H} {p : List MemPlace}
    (hv : Value.okWide Tryd.prog W r b0 50 v) (h : DataW.Trod enc Tryd.prog W base spare held 50 v d p) :
    ∃ (i k q pr o dy : Int) (it : ByteArray), v = .agg #[.int .i64 i, .string it, .int .i64 k, .int .i64 q, .int .i64 pr, .int .i64 o, .int .i64 dy] ∧ it.size ≤ maxLen ∧
      (-9223372036854775808 ≤ i ∧ i ≤ 9223372036854775807) ∧ (-9223372036854775808 ≤ k ∧ k ≤ 9223372036854775807) ∧ (-9223372036854775808 ≤ q ∧ q ≤ 9223372036854775807) ∧ (-9223372036854775808 ≤ pr ∧ pr ≤ 9223372036854775807) ∧
      (-9223372036854775808 ≤ o ∧ o ≤ 9223372036854775807) ∧ (-9223372036854775808 ≤ dy ∧ dy ≤ 9223372036854775807) := by
  obtain ⟨v0, v1, v2, v3, v4, v5, v6, y0, y1, y2, y3, y4, y5, y6, n, rfl, -, -, h0, h1, h2, h3, h4, h5, h6⟩ := open_agg7 Tryd.underlying50 (by kernel_rfl) (by kernel_rfl) hv h
  obtain ⟨z0, e0, -, w0⟩ := DataW.trod_int Tryd.underlying3 h0
  obtain ⟨z1, e1, -, w1⟩ := DataW.trod_string Tryd.underlying9 h1
  obtain ⟨z2, e2, -, w2⟩ := DataW.trod_int Tryd.underlying3 h2
  obtain ⟨z3, e3, -, w3⟩ := DataW.trod_int Tryd.underlying3 h3
  obtain ⟨z4, e4, -, w4⟩ := DataW.trod_int Tryd.underlying3 h4
  obtain ⟨z5, e5, -, w5⟩ := DataW.trod_int Tryd.underlying3 h5
  obtain ⟨z6, e6, -, w6⟩ := DataW.trod_int Tryd.underlying3 h6
  simp only [List.cons.injEq, and_true] at e0 e1 e2 e3 e4 e5 e6
  subst e0 e1 e2 e3 e4 e5 e6
  exact ⟨_, _, _, _, _, _, _, rfl, w1, wf_bounds w0, wf_bounds w2, wf_bounds w3, wf_bounds w4, wf_bounds w5, wf_bounds w6⟩
end Go.Proofs.YtefbedineniejaaDoor
end
