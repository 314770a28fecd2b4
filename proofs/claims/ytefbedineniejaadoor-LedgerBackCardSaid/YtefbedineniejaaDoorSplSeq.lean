/- strings.SplitSeq at a text of one byte: what its iterator hands on. -/
import Derived.Test.YtefbedineniejaaDoorRgF
import Derived.Test.YtefbedineniejaaDoorSpl
import Derived.Test.YtefbedineniejaaDoorShelf
import Derived.Lib.Hide
namespace Go.Proofs.YtefbedineniejaaDoor
open Go.RowKit
set_option linter.unusedVariables false
attribute [local go_sem] Oper.semAt_some

abbrev bsv (x : List UInt8) : Value := .string ⟨x.toArray⟩
def curLen (wr : World) (bs : Nat) : Nat := match wr.cell? ⟨bs, 0, none⟩ with
  | some (.string s) => s.size
  | _ => 0

theorem idx_none {c : UInt8} {l : List UInt8} (h : c ∉ l) : Lib.indexByte l c = -1 := by
  induction l with
  | nil => rfl
  | cons b l ih =>
    simp only [List.mem_cons, not_or] at h
    have hb : (b == c) = false := by rw [beq_eq_false_iff_ne]; exact fun e => h.1 e.symm
    simp [Lib.indexByte, hb, ih h.2]

set_option maxRecDepth 100000 in
set_option maxHeartbeats 2000000 in
theorem splitSeq1_in (c : UInt8) (bp bs bv : Nat) (s : ByteArray) (hsz : s.size ≤ 1000000000) (B lo hi : Nat) (w : World) (hb1 : lo ≤ bp ∧ bp < hi) (hb2 : lo ≤ bv ∧ bv < hi) (hb3 : lo ≤ bs ∧ bs < hi) (hne1 : bp ≠ bs) (hne2 : bv ≠ bs)
    (hp : w.cell? ⟨bp, 0, none⟩ = some (.string ⟨#[c]⟩)) (hv : w.cell? ⟨bv, 0, none⟩ = some (.int .i64 0)) (hs : w.cell? ⟨bs, 0, none⟩ = some (.string s)) (hf : w.frozen? ⟨bs, 0, none⟩ = false) :
    SeqCell Tryd.prog 74 #[.pointer (some ⟨bp, 0, none⟩), .pointer (some ⟨bs, 0, none⟩), .pointer (some ⟨bv, 0, none⟩)] bsv (KB B lo hi) bs (Sp.spl c s.data.toList) w := by
  intro l J Jx W hW hT hY h0
  have gp : W.cell? ⟨bp, 0, none⟩ = some (.string ⟨#[c]⟩) := (hW.cell (p := ⟨bp, 0, none⟩) hb1.1 hb1.2).trans hp
  have gv : W.cell? ⟨bv, 0, none⟩ = some (.int .i64 0) := (hW.cell (p := ⟨bv, 0, none⟩) hb2.1 hb2.2).trans hv
  have gs : W.cell? ⟨bs, 0, none⟩ = some (.string s) := (hW.cell (p := ⟨bs, 0, none⟩) hb3.1 hb3.2).trans hs
  have gf : W.frozen? ⟨bs, 0, none⟩ = false := (hW.frozen (p := ⟨bs, 0, none⟩) hb3.1 hb3.2).trans hf
  clear hp hv hs hf
  refine callsIn_of_wp Tryd.func74 rfl trivial ?_ rfl
  simp only [Tryd.ntmps74, List.size_toArray, List.length_cons, List.length_nil, Nat.reduceAdd, Nat.reduceSub, Array.replicate_succ, Array.replicate_zero, List.push_toArray, List.append_toArray, List.nil_append, List.cons_append]
  gi_wp2
  gi_loopw [7, 8] (fun i f wr => ∃ (pre : List (List UInt8)) (cur : ByteArray), Sp.spl c s.data.toList = pre ++ Sp.spl c cur.data.toList ∧ cur.size ≤ s.size ∧ J pre wr ∧ wr.cell? ⟨bs, 0, none⟩ = some (.string cur) ∧ wr.frozen? ⟨bs, 0, none⟩ = false ∧ wr.cell? ⟨bp, 0, none⟩ = some (.string ⟨#[c]⟩) ∧ wr.cell? ⟨bv, 0, none⟩ = some (.int .i64 0))
    (fun _ _ wr => curLen wr bs)
  case atStart => exact ⟨[], s, rfl, Nat.le_refl _, h0, gs, gf, gp, gv⟩
  case round =>
    obtain ⟨pre, cur, hx, hle, hJ, q1, q2, q3, q4⟩ := hrel
    by_cases hc : c ∈ cur.data.toList
    · obtain ⟨x, r, hcur, hnx⟩ := Sp.cut hc
      have hi : Lib.indexByte cur.data.toList c = x.length := by rw [hcur]; exact Sp.index_skip x r hnx
      have hsz2 : cur.size = x.length + 1 + r.length := by
        have := congrArg List.length hcur
        simp at this; omega
      obtain ⟨X, hX⟩ : ∃ X : ByteArray, X = ⟨x.toArray⟩ := ⟨_, rfl⟩
      obtain ⟨R, hR0⟩ : ∃ R : ByteArray, R = ⟨r.toArray⟩ := ⟨_, rfl⟩
      have e1 : cur.extract 0 x.length = X := by
        rw [hX]; apply ByteArray.ext; apply Array.ext'
        simp [hcur]
      have e2 : cur.extract (x.length + 1) cur.size = R := by
        rw [hR0]; apply ByteArray.ext; apply Array.ext'
        simp [hcur, hsz2]
      have k1 := fun w => slice_to (P := Tryd.prog) 9 Tryd.underlying9 cur x.length (x.length : Int) rfl (by omega) w
      have k2 := fun w => slice_from (P := Tryd.prog) 9 Tryd.underlying9 cur (x.length + 1) ((x.length : Int) + 1) (by omega) (by omega) w
      rw [e1] at k1
      rw [e2] at k2
      have HI : Hid (∀ w, Calls Tryd.prog 76 #[.string cur, .string ⟨#[c]⟩] w fun e w' => e = .returned (.int .i64 x.length) ∧ w' = w) := Lib.hid (fun w => by rw [← hi]; exact Tryd.strings_Index_one cur c w)
      have hY1 := hY pre x wr hJ (by rw [hx, hcur, Sp.spl_cons r hnx]; exact ⟨Sp.spl c r, by simp⟩)
      have hgt : ¬ ((x.length : Int) < 0) := by omega
      have hbig : (x.length : Int) ≤ 1000000000 := by omega
      clear e1 e2 hi hY
      obtain ⟨fn, tmps, assign, body, hy, hR⟩ := hY1
      dsimp only [bsv] at hy
      rw [← hX] at hy
      have HX := Lib.hid hX
      have HR0 := Lib.hid hR0
      have HC := Lib.hid hcur
      have HP := Lib.hid hx
      have hnl : decide ((x.length : Int) < 0) = false := by simp
      clear hX hR0 hcur hx
      gi_wp2_with (refine ⟨trivial, ?_⟩; gi_at_call 76; refine (callsIn_wide.2 (HI.out _)).mono ?_; rintro e w' ⟨rfl, rfl⟩)
      refine hR.mono ?_
      rintro e W3 (⟨rfl, hJ3, hk3⟩ | ⟨rfl, hJx3⟩)
      · have r1 := (hk3.cell (p := ⟨bp, 0, none⟩) hb1.1 hb1.2).trans q3
        have r2 := (hk3.cell (p := ⟨bv, 0, none⟩) hb2.1 hb2.2).trans q4
        have r3 := (hk3.cell (p := ⟨bs, 0, none⟩) hb3.1 hb3.2).trans q1
        have r4 := (hk3.frozen (p := ⟨bs, 0, none⟩) hb3.1 hb3.2).trans q2
        gi_wp2
        have o1 : (W3.setCell ⟨bs, 0, none⟩ (.string R)).cell? ⟨bs, 0, none⟩ = some (.string R) := World.cell?_setCell_same' _ _ _ (by rw [r3]; rfl)
        have hRs : R.size = r.length := by rw [HR0.out]; rfl
        have hRl : R.data.toList = r := by rw [HR0.out]
        go_roundw
        case rel =>
          refine ⟨pre ++ [x], R, ?_, by omega, hT _ _ _ hJ3, o1, by rw [World.frozen?_setCell]; exact r4, ?_, ?_⟩
          · rw [HP.out, HC.out, Sp.spl_cons r hnx, hRl]; simp
          · exact (World.cell?_setCell_other W3 ⟨bs, 0, none⟩ ⟨bp, 0, none⟩ _ (fun h => hne1 (congrArg Addr.block h).symm)).trans r1
          · exact (World.cell?_setCell_other W3 ⟨bs, 0, none⟩ ⟨bv, 0, none⟩ _ (fun h => hne2 (congrArg Addr.block h).symm)).trans r2
        case measure =>
          unfold curLen
          rw [o1, q1]
          simp only
          omega
      · gi_wp2
        refine bodyPost_ret (results_none rfl _ _ _) rfl ?_
        exact ⟨⟨_, rfl⟩, .inr ⟨pre ++ [x], by rw [HP.out, HC.out, Sp.spl_cons r hnx]; exact ⟨Sp.spl c r, by simp⟩, hJx3⟩⟩
    · have hi : Lib.indexByte cur.data.toList c = -1 := idx_none hc
      have HI : Hid (∀ w, Calls Tryd.prog 76 #[.string cur, .string ⟨#[c]⟩] w fun e w' => e = .returned (.int .i64 (-1)) ∧ w' = w) := Lib.hid (fun w => by rw [← hi]; exact Tryd.strings_Index_one cur c w)
      have hs1 : Sp.spl c cur.data.toList = [cur.data.toList] := Sp.spl_none hc
      rw [hs1] at hx
      have hY1 := hY pre cur.data.toList wr hJ (by rw [hx]; exact List.prefix_refl _)
      have HP := Lib.hid hx
      clear hi hs1 hx hc hY
      obtain ⟨fn, tmps, assign, body, hy, hR⟩ := hY1
      dsimp only [bsv] at hy
      rw [show (⟨cur.data.toList.toArray⟩ : ByteArray) = cur from rfl] at hy
      gi_wp2_with (refine ⟨trivial, ?_⟩; gi_at_call 76; refine (callsIn_wide.2 (HI.out _)).mono ?_; rintro e w' ⟨rfl, rfl⟩)
      refine hR.mono ?_
      rintro e W3 (⟨rfl, hJ3, hk3⟩ | ⟨rfl, hJx3⟩)
      · gi_wp2
        go_end0
        exact ⟨⟨_, rfl⟩, .inl (by rw [HP.out]; exact hJ3)⟩
      · gi_wp2
        go_end0
        exact ⟨⟨_, rfl⟩, .inr ⟨pre ++ [cur.data.toList], by rw [HP.out]; exact List.prefix_refl _, hJx3⟩⟩

/-- The world behind strings.SplitSeq: three boxes more. -/
def seqW (w : World) (s sep : ByteArray) : World := ((w.alloc (.cells #[.string s] 9)).alloc (.cells #[.string sep] 9)).alloc (.cells #[.int .i64 0] 3)
theorem splitSeq_raw (s sep : ByteArray) (w : World) :
    Calls Tryd.prog 57 #[.string s, .string sep, .int .i64 0] w fun e w' => e = .returned (.func (.func 74) #[] #[.pointer (some ⟨w.heap.size + 1, 0, none⟩), .pointer (some ⟨w.heap.size, 0, none⟩), .pointer (some ⟨w.heap.size + 2, 0, none⟩)]) ∧ w' = seqW w s sep := by
  unfold seqW
  go_enter Tryd.func57, Tryd.ntmps57
  go_wp2
  go_ret
  exact ⟨rfl, rfl⟩
theorem splitSeq_any (s sep : ByteArray) (w : World) :
    Calls Tryd.prog 36 #[.string s, .string sep] w fun e w' => e = .returned (.func (.func 74) #[] #[.pointer (some ⟨w.heap.size + 1, 0, none⟩), .pointer (some ⟨w.heap.size, 0, none⟩), .pointer (some ⟨w.heap.size + 2, 0, none⟩)]) ∧ w' = seqW w s sep := by
  have H := Lib.hid (splitSeq_raw s sep w)
  go_enter Tryd.func36, Tryd.ntmps36
  go_wp2_with (go_at_call 57; refine H.out.mono ?_; rintro e w' ⟨rfl, rfl⟩)
  go_ret
  exact ⟨rfl, rfl⟩
end Go.Proofs.YtefbedineniejaaDoor
