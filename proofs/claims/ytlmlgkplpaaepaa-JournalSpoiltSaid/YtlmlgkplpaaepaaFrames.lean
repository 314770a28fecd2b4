/- tallymankeep.frames, framed: what they hand back. -/
import Derived.Test.YtlmlgkplpaaepaaCrcR
import Derived.Test.YtlmlgkplpaaepaaCrcT
import Derived.Test.YtlmlgkplpaaepaaEqS
import Derived.Test.YtlmlgkplpaaepaaPick
namespace Go.Proofs.Ytlmlgkplpaaepaa
open Go.RowKit

theorem frame_ok_at (n : Int) (s : ByteArray) {w : World} (k : Nat) (hk : n = k) (h1 : k ≤ 100000) (hs : s.size ≤ 200) :
    Calls Try.prog 31 #[.int .i64 n, .string s] w (Gives (.tuple #[.string ⟨(Cr.frame k s.data.toList).toArray⟩, .nilIface]) w) := by
  subst hk
  have := frame_ok (k : Int) s w hs (by omega) (by omega)
  rwa [Int.toNat_natCast] at this

/-- what a list of texts is, as lists of bytes. -/
def lsts (zs : List ByteArray) : List (List UInt8) := zs.map (·.data.toList)
def fit (zs : List ByteArray) : Prop := zs.length ≤ 20 ∧ ∀ s ∈ zs, s.size ≤ 200
def FramesPost (zs : List ByteArray) (w : World) (e : Ending) (w' : World) : Prop :=
  ((fit zs ∧ e = .returned (.tuple #[.string ⟨(Cr.frs 0 (lsts zs)).toArray⟩, .bool true])) ∨ (¬ fit zs ∧ e = .returned (.tuple #[.string ⟨#[]⟩, .bool false]))) ∧ Below w.heap.size w w'

theorem frs_snoc (ts : List (List UInt8)) (t : List UInt8) : ∀ n, Cr.frs n (ts ++ [t]) = Cr.frs n ts ++ Cr.frame (n + ts.length) t := by
  induction ts with
  | nil => intro n; simp [Cr.frs]
  | cons u ts ih => intro n; simp only [List.cons_append, Cr.frs, ih, List.length_cons, List.append_assoc]; rw [show n + 1 + ts.length = n + (ts.length + 1) from by omega]

theorem frs_bd (ts : List (List UInt8)) (h : ∀ t ∈ ts, t.length ≤ 200) : ∀ n, (Cr.frs n ts).length ≤ 216 * ts.length := by
  induction ts with
  | nil => intro n; simp [Cr.frs]
  | cons u ts ih =>
    intro n
    have h1 := h u (by simp)
    have h2 := ih (fun t ht => h t (by simp [ht])) (n + 1)
    simp only [Cr.frs, List.length_append, Cr.frame_len, List.length_cons]
    omega

set_option maxHeartbeats 400000 in
set_option maxRecDepth 100000 in
theorem frames_any (a : Option Addr) (c : Nat) (zs : List ByteArray) (w : World) (hr : Rd w a (zs.map Value.string)) (hm : zs.length ≤ maxLen) :
    Calls Try.prog 13 #[.slice a zs.length c] w (FramesPost zs w) := by
  unfold maxLen at hm
  have HR := Lib.hid hr
  clear hr
  by_cases h20 : 20 < zs.length
  · go_enter Try.func13, Try.ntmps13
    go_wp2
    go_ret2
    exact ⟨Or.inr ⟨fun h => by have := h.1; omega, rfl⟩, Below.refl _ _⟩
  · have hm20 : zs.length ≤ 20 := by omega
    clear hm
    go_enter Try.func13, Try.ntmps13
    go_wp2_with fail
    go_loopw [4, 5] (fun s i wr => ∃ k : Nat, k ≤ zs.length ∧ i = .int .i64 k ∧ s = .string ⟨(Cr.frs 0 (lsts (zs.take k))).toArray⟩ ∧ (∀ t ∈ zs.take k, t.size ≤ 200) ∧ Below w.heap.size w wr) (fun _ i _ => zs.length - (intOf i).toNat)
    case atStart => exact ⟨0, by omega, rfl, rfl, by simp, Below.refl _ _⟩
    case round =>
      obtain ⟨k, hk, rfl, rfl, hall, hb⟩ := hrel
      have hbd := frs_bd (lsts (zs.take k)) (by intro t ht; simp only [lsts, List.mem_map] at ht; obtain ⟨s, hs, rfl⟩ := ht; simpa using hall s hs) 0
      have hlk : (lsts (zs.take k)).length = k := by simp [lsts]; omega
      rw [hlk] at hbd
      by_cases hlt : k < zs.length
      · obtain ⟨b, off, rfl, hc⟩ := (HR.out.below hb).strs k hlt
        obtain ⟨t, ht⟩ : ∃ t, t = zs.getD k ByteArray.empty := ⟨_, rfl⟩
        have hmem : t ∈ zs := by rw [ht]; simp [List.getD, hlt]
        have hsn : zs.take (k + 1) = zs.take k ++ [t] := by rw [List.take_succ_eq_append_getElem hlt, ht]; simp [List.getD, hlt]
        have hF : Cr.frs 0 (lsts (zs.take (k + 1))) = Cr.frs 0 (lsts (zs.take k)) ++ Cr.frame k t.data.toList := by
          rw [hsn]; simp only [lsts, List.map_append, List.map_cons, List.map_nil]
          rw [frs_snoc, Nat.zero_add]
          congr 2
        rw [← ht] at hc
        obtain ⟨F, hF0⟩ : ∃ F, F = Cr.frs 0 (lsts (zs.take k)) := ⟨_, rfl⟩
        rw [← hF0] at hF hbd ⊢
        have HF := Lib.hid hF
        have HSN := Lib.hid hsn
        have HALL := Lib.hid hall
        have HM := Lib.hid hmem
        clear hF hsn hall hmem ht hF0 hlk
        by_cases ht200 : t.size ≤ 200
        · have hfl := Cr.frame_len k t.data.toList
          have hfl2 : (Cr.frame k t.data.toList).length ≤ 216 := by rw [hfl]; simp; omega
          obtain ⟨X, hX⟩ : ∃ X, X = Cr.frame k t.data.toList := ⟨_, rfl⟩
          have C := frame_ok_at (k : Int) t (w := wr) k rfl (by omega) ht200
          rw [← hX] at C hfl2
          have HX := Lib.hid hX
          have HC := Lib.hid C
          have hcat := cat_lists F X (F ++ X) rfl
          clear hX C hfl
          go_wp2_with fail
          refine HC.out.mono ?_
          rintro e w1 ⟨rfl, hb1⟩
          go_wp2_with fail
          go_roundw
          case rel => exact ⟨k + 1, by omega, by go_num, by rw [HF.out, HX.out], by rw [HSN.out]; intro u hu; simp only [List.mem_append, List.mem_singleton] at hu; rcases hu with hu | rfl; exact HALL.out u hu; exact ht200, hb.step hb1⟩
          case measure => simp [intOf]; omega
        · have C := frame_long (k : Int) t wr (by omega)
          have HC := Lib.hid C
          clear C
          go_wp2_with fail
          refine HC.out.mono ?_
          rintro e w1 ⟨rfl, hb1⟩
          go_wp2_with fail
          go_ret2
          exact ⟨Or.inr ⟨fun h => ht200 (h.2 t HM.out), rfl⟩, hb.step hb1⟩
      · obtain rfl : k = zs.length := by omega
        rw [List.take_of_length_le (Nat.le_refl _)] at hall ⊢
        have HALL := Lib.hid hall
        clear hall hlk hbd
        go_wp2_with fail
        go_ret2
        exact ⟨Or.inl ⟨⟨hm20, HALL.out⟩, rfl⟩, hb⟩
end Go.Proofs.Ytlmlgkplpaaepaa
