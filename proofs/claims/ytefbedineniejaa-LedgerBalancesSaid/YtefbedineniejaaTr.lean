/- ledger.Trial: what it hands back. -/
import Derived.Test.YtefbedineniejaaTrM
import Derived.Test.YtefbedineniejaaLgP
import Derived.Deep.LoopGhost
namespace Go.Proofs.Ytefbedineniejaa
open Go.RowKit
open Go.Maps (Keyed)
open Go.WideMaps
open Go.Proofs (encStr)
set_option linter.unusedVariables false

theorem info_bal : (Try.prog.info? 31).map (fun i => (i.zero, i.size, i.bytes)) = some (some (.agg #[.string ⟨#[]⟩, .int .i64 0]), 2, 24) := by kernel_rfl
theorem zero_int (w : World) : (zeroValue 3).run Try.prog w = .ok (.int .i64 0) w := by kernel_rfl
def balCells (B : List (List UInt8 × Int)) : List Value := B.flatMap fun p => [.string ⟨p.1.toArray⟩, .int .i64 p.2]
/-- Balances as they come of postings. -/
noncomputable def Tr.bal (L : List Lg.P) : List (List UInt8 × Int) := (srt (Tr.keys L)).map fun k => (k, Tr.sum L (.string k))
theorem balCells_app (A B : List (List UInt8 × Int)) : balCells (A ++ B) = balCells A ++ balCells B := by simp [balCells]
theorem one_bal (x : ByteArray) (n : Int) : ∀ u ∈ [Value.string x, .int .i64 n], u.oneCell' = true := by
  intro u hu
  simp only [List.mem_cons, List.not_mem_nil, or_false] at hu
  rcases hu with rfl | rfl <;> rfl
theorem own_base {w : World} {b b' e size n : Nat} {v : Value} {xs : List Value} (h : w.ownsRow b e size v n xs) (hb : b' ≤ b) : w.ownsRow b' e size v n xs := by
  obtain ⟨hl, h⟩ := h
  refine ⟨hl, ?_⟩
  rcases h with h | ⟨g, cap, cur, rfl, hB, r⟩
  · exact Or.inl h
  · exact Or.inr ⟨g, cap, cur, rfl, by omega, r⟩
def TrialP (base : Nat) (B : List (List UInt8 × Int)) (w : World) (e : Ending) (w' : World) : Prop := ∃ v, e = .returned v ∧ w'.ownsRow base 31 2 v B.length (balCells B) ∧ Below base w w'
theorem heap_new2 (w : World) (o : Obj) : (w.alloc o).heap[w.heap.size]? = some o := by show (w.heap.push o)[w.heap.size]? = _; simp
theorem key_str (s : ByteArray) (h : s.size ≤ maxLen) : keyOf Try.prog 9 (.string s) = some (Tr.ky s) := keyOf_string_mk Try.underlying9 h

set_option maxHeartbeats 1000000 in
set_option maxRecDepth 100000 in
theorem trial_any (L : List Lg.P) (a : Option Addr) (cap : Nat) (w : World) (hL : L.length ≤ 1000) (hr : Rd w a (Lg.fl L)) (hs : ∀ p ∈ L, p.d.size ≤ maxLen ∧ p.c.size ≤ maxLen) :
    Calls Try.prog 7 #[.slice a L.length cap] w (TrialP w.heap.size (Tr.bal L) w) := by
  have HR := Lib.hid hr
  have HS := Lib.hid hs
  clear hr hs
  have hmm := @run_makeMap Try.prog
  go_enter Try.func7, Try.ntmps7
  go_wp2
  go_loopw [12] (fun i wr => ∃ k : Nat, k ≤ L.length ∧ i = .int .i64 k ∧ MVI Try.prog 9 wr w.heap.size (Tr.keys (L.take k)) (Tr.sum (L.take k)) ∧ Below w.heap.size w wr) (fun i _ => L.length - (intOf i).toNat)
  case atStart => exact ⟨0, by omega, rfl, MVI.made _ _ _, (Below.refl _ _).new _⟩
  case round =>
    obtain ⟨k, hk, rfl, hown, hb⟩ := hrel
    by_cases hlt : k < L.length
    · obtain ⟨b, off, rfl, p0, p1, p2⟩ := (HR.out.below hb).posting k hlt
      obtain ⟨p, hp⟩ : ∃ p, p = L[k] := ⟨_, rfl⟩
      rw [← hp] at p0 p1 p2
      have hsz := HS.out p (by rw [hp]; exact List.getElem_mem hlt)
      obtain ⟨hsd, hsc⟩ := hsz
      have HTK : Hid (L.take (k + 1) = L.take k ++ [p]) := Lib.hid (by rw [List.take_succ_eq_append_getElem hlt, hp])
      have hkl := Tr.keys_len (L.take k)
      have hkl2 := addK_len (Tr.keys (L.take k)) (Tr.ky p.d)
      have hlen : (L.take k).length ≤ 1000 := by rw [List.length_take]; omega
      obtain ⟨ks, hks⟩ : ∃ ks, ks = Tr.keys (L.take k) := ⟨_, rfl⟩
      obtain ⟨g, hg⟩ : ∃ g, g = Tr.sum (L.take k) := ⟨_, rfl⟩
      rw [← hks, ← hg] at hown
      rw [← hks] at hkl hkl2
      have HKS := Lib.hid hks
      have HG := Lib.hid hg
      have hBw : w.heap.size < wr.heap.size := MV.lt hown
      clear hp hks hg
      go_wp2_with (first
        | (at_lookup; refine wpList_lookup_mvi (MV.alloc hown _) rfl _ _ 27 rfl 3 (Go.Maps.string_keyed Try.underlying9) Try.underlying27 (zero_int _) rfl _ (Tr.ky p.d) rfl (key_str _ hsd) ?_)
        | (at_mapUpdate; refine wpList_update_mvi (MV.alloc hown _) rfl _ _ _ 27 rfl 3 (Go.Maps.string_keyed Try.underlying9) Try.underlying27 (by unfold maxLen; omega) rfl _ (Tr.ky p.d) rfl _ rfl (key_str _ hsd) ?_; intro w1 hown1 hg1; have hbx := hg1.block wr.heap.size (by simp) (by simp; omega); have x1 : w1.cell? ⟨wr.heap.size, 1, none⟩ = some (.string p.c) := (World.cell?_of_block hbx).trans (by rw [Lib.cell_of_heap (heap_new2 _ _)]; rfl); have x2 : w1.cell? ⟨wr.heap.size, 2, none⟩ = some (.int .i64 p.n) := (World.cell?_of_block hbx).trans (by rw [Lib.cell_of_heap (heap_new2 _ _)]; rfl); clear hbx)
        | (at_lookup; refine wpList_lookup_mvi hown1 rfl _ _ 27 rfl 3 (Go.Maps.string_keyed Try.underlying9) Try.underlying27 (zero_int _) rfl _ (Tr.ky p.c) rfl (key_str _ hsc) ?_)
        | (at_mapUpdate; refine wpList_update_mvi hown1 rfl _ _ _ 27 rfl 3 (Go.Maps.string_keyed Try.underlying9) Try.underlying27 (by unfold maxLen; omega) rfl _ (Tr.ky p.c) rfl _ rfl (key_str _ hsc) ?_; intro w2 hown2 hg2; clear x1 x2))
      have hb1 : Below w.heap.size w w1 := (hb.new _).grown hg1 (by have := hb.size; simp; omega) (fun j e => by cases e; exact Nat.le_refl _)
      have hb2 : Below w.heap.size w w2 := hb1.grown hg2 hb1.size (fun j e => by cases e; exact Nat.le_refl _)
      go_roundw
      case rel =>
        refine ⟨k + 1, by omega, by go_num, ?_, hb2⟩
        rw [HTK.out, Tr.keys_snoc, Tr.sum_snoc, ← HKS.out, ← HG.out]
        exact hown2
      case measure => simp [intOf]; omega
    · obtain rfl : k = L.length := by omega
      rw [List.take_length] at hown
      have hkl := Tr.keys_len L
      have HKeys := Lib.hid (mapsKeys_any w.heap.size wr)
      have HSorted := Lib.hid (sortedKeys_any w.heap.size wr _ _ _ hown (by omega))
      go_wp2_with (first
        | (go_at_call 17; refine HKeys.out.mono ?_; rintro e w' ⟨rfl, rfl⟩))
      refine HSorted.out.mono ?_
      rintro e w3 ⟨v3, rfl, hrow3, hb3⟩
      obtain ⟨a3, cap3, rfl, hrd3, -, -⟩ := rd_of_own hrow3
      have hb3' : Below (wr.alloc (.cells #[.map (some w.heap.size)] 27)).heap.size (wr.alloc (.cells #[.map (some w.heap.size)] 27)) w3 := by rw [World.size_alloc]; exact hb3
      have hown3 : MVI Try.prog 9 w3 w.heap.size (Tr.keys L) (Tr.sum L) := MV.below (MV.alloc hown _) hb3'
      have hB3 : Below w.heap.size w w3 := (hb.new _).trans (hb3'.mono (by have := hb.size; simp; omega))
      have hstr : ∀ x ∈ srt (Tr.keys L), x.length ≤ maxLen := by
        obtain ⟨D, -, -, -, hall⟩ := hown3.strs (Go.Maps.string_keyed Try.underlying9) Try.underlying9
        intro x hx
        obtain ⟨y, hy, rfl⟩ := List.mem_map.1 ((srt_perm _).mem_iff.1 hx)
        obtain ⟨s, rfl, hs⟩ := hall y hy
        exact hs
      have hSl : (srt (Tr.keys L)).length ≤ 2000 := by rw [srt_len]; omega
      obtain ⟨S, hS⟩ : ∃ S, S = srt (Tr.keys L) := ⟨_, rfl⟩
      rw [← hS] at hrd3 hstr hSl ⊢
      have HSS := Lib.hid hS
      have HR3 := Lib.hid hrd3
      have HST := Lib.hid hstr
      have HO3 := Lib.hid hown3
      clear hS hrd3 hstr hown3 hown hrow3 hb3 hb3' HKeys HSorted hb hmm
      obtain ⟨i0, hi, hiz, his, hib⟩ := info_parts info_bal
      go_wp2
      go_loopw [6, 35] (fun out i w4 => ∃ k : Nat, k ≤ S.length ∧ i = .int .i64 k ∧ w4.ownsRow w3.heap.size 31 2 out k (balCells ((S.take k).map fun x => (x, Tr.sum L (.string x)))) ∧ Below w3.heap.size w3 w4) (fun _ i _ => S.length - (intOf i).toNat)
      case atStart => exact ⟨0, by omega, rfl, World.ownsRow_nil _ _ _ _, Below.refl _ _⟩
      case round =>
        obtain ⟨k, hk, rfl, hrow, hb4⟩ := hrel
        by_cases hlt : k < S.length
        · obtain ⟨b3, o3, ha3, c3⟩ := (HR3.out.below hb4).at k (by simpa using hlt)
          have e3 : (S.map encStr).getD k undef = .string ⟨(S[k]).toArray⟩ := by simp [List.getD, hlt, encStr]
          rw [e3] at c3
          obtain ⟨x, hx⟩ : ∃ x : ByteArray, x = ⟨(S[k]).toArray⟩ := ⟨_, rfl⟩
          rw [← hx] at c3
          have hxk : Tr.ky x = .string S[k] := by rw [hx]; rfl
          have hxl : x.size ≤ maxLen := by rw [hx]; exact HST.out _ (List.getElem_mem hlt)
          have hown4 := MV.below HO3.out hb4
          have HTK : Hid (S.take (k + 1) = S.take k ++ [S[k]]) := Lib.hid (List.take_succ_eq_append_getElem hlt)
          have HX := Lib.hid hx
          have HXK := Lib.hid hxk
          have hbz := hb4.size
          subst ha3
          clear hx hxk e3
          go_wp2_with (first
            | (at_lookup; refine wpList_lookup_mvi hown4 rfl _ _ 27 rfl 3 (Go.Maps.string_keyed Try.underlying9) Try.underlying27 (zero_int _) rfl _ (Tr.ky x) rfl (key_str _ hxl) ?_)
            | (at_builtin; refine app_one (w := wr) rfl (.tmp 39) (.tmp 45) 28 rfl w3.heap.size 31 i0 (.agg #[.string ⟨#[]⟩, .int .i64 0]) 2 24 Try.underlying28 hi hiz his hib rfl (by decide) _ _ _ hrow rfl [.string x, .int .i64 (Tr.sum L (Tr.ky x))] rfl rfl (one_bal _ _) (by unfold maxLen; omega) (by omega) hbz ?_; intro v5 w5 hown5 hg5))
          go_roundw
          case rel =>
            refine ⟨k + 1, by omega, by go_num, ?_, hb4.owngrown hrow hg5⟩
            rw [HTK.out, List.map_append, balCells_app]
            have e4 : balCells ([S[k]].map fun x => (x, Tr.sum L (.string x))) = [.string x, .int .i64 (Tr.sum L (Tr.ky x))] := by rw [HXK.out, HX.out]; rfl
            rw [e4]
            exact hown5
          case measure => simp [intOf]; omega
        · obtain rfl : k = S.length := by omega
          rw [List.take_length] at hrow
          go_wp2
          go_ret
          refine ⟨_, rfl, ?_, hB3.trans (hb4.mono hB3.size)⟩
          have e5 : Tr.bal L = S.map fun x => (x, Tr.sum L (.string x)) := by rw [HSS.out]; rfl
          rw [e5, List.length_map]
          exact own_base hrow hB3.size
end Go.Proofs.Ytefbedineniejaa
