/- journal.Read: what it hands back. -/
import Derived.Test.YtmkkoccnnehkeaaDoorCrcG
namespace Go.Proofs.YtmkkoccnnehkeaaDoor
open Go.RowKit

theorem info_str : (Tryd.prog.info? 9).map (fun i => (i.zero, i.size, i.bytes)) = some (some (.string ⟨#[]⟩), 1, 16) := by kernel_rfl
def strv (t : List UInt8) : Value := .string ⟨t.toArray⟩
theorem one_str (s : ByteArray) : ∀ u ∈ [Value.string s], u.oneCell' = true := by intro u hu; simp at hu; subst hu; rfl

def ReadPost (s : ByteArray) (w : World) (e : Ending) (w' : World) : Prop :=
  ∃ v ts m, Cr.Reads s.data.toList 0 ts m ∧ e = .returned (.tuple #[v, .int .i64 (m : Nat)]) ∧ w'.ownsRow w.heap.size 9 1 v ts.length (ts.map strv) ∧ Below w.heap.size w w'

set_option maxHeartbeats 400000 in
theorem one_none_at (s : ByteArray) (n : Nat) (w : World) (hs : s.size ≤ 100000000) (hn : n ≤ 4294967295) (h : Cr.one s.data.toList n = none) :
    Calls Tryd.prog 43 #[.string s, .int .i64 n] w fun e w' => e = .returned (.tuple #[.string ⟨#[]⟩, .int .i64 0, .bool false]) ∧ Below w.heap.size w w' := by
  refine (one_any s n w (by unfold maxLen; omega) hn).mono ?_
  rintro e w' ⟨h1, q, rfl⟩
  rw [h] at h1
  exact ⟨h1, below_drewN (Below.refl _ _) q⟩
theorem one_some_at (s : ByteArray) (n : Nat) (w : World) (hs : s.size ≤ 100000000) (hn : n ≤ 4294967295) (t : List UInt8) (m : Nat) (h : Cr.one s.data.toList n = some (t, m)) :
    Calls Tryd.prog 43 #[.string s, .int .i64 n] w fun e w' => e = .returned (.tuple #[.string ⟨t.toArray⟩, .int .i64 m, .bool true]) ∧ ∃ q, w' = w.drewN q := by
  refine (one_any s n w (by unfold maxLen; omega) hn).mono ?_
  rintro e w' ⟨h1, h2⟩
  rw [h] at h1
  exact ⟨h1, h2⟩

set_option maxHeartbeats 400000 in
set_option maxRecDepth 100000 in
theorem read_any (s : ByteArray) (w : World) (hs : s.size ≤ 100000000) : Calls Tryd.prog 19 #[.string s] w (ReadPost s w) := by
  obtain ⟨i0, hi, hiz, his, hib⟩ := info_parts info_str
  go_enter Tryd.func19, Tryd.ntmps19
  go_wp2
  go_loopw [4, 5] (fun v p wr => ∃ (ts : List (List UInt8)) (a : Nat), a ≤ s.size ∧ 16 * ts.length ≤ a ∧ p = .int .i64 a ∧ wr.ownsRow w.heap.size 9 1 v ts.length (ts.map strv) ∧ Below w.heap.size w wr ∧
      Hid (∀ ts' m', Cr.Reads (s.data.toList.drop a) ts.length ts' m' → Cr.Reads s.data.toList 0 (ts ++ ts') (a + m'))) (fun _ p _ => s.size - (intOf p).toNat)
  case atStart => exact ⟨[], 0, by omega, by simp, rfl, World.ownsRow_nil _ _ _ _, Below.refl _ _, fun ts' m' h => by simpa using h⟩
  case round =>
    obtain ⟨ts, a, ha, hts, rfl, hown, hb, HR⟩ := hrel
    have hsl := slice_from (P := Tryd.prog) 9 Tryd.underlying9 s a (a : Int) rfl ha
    have hsz : (s.extract a s.size).size = s.size - a := by simp
    have hda : (s.extract a s.size).data.toList = s.data.toList.drop a := by rw [Lib.extract_data, take_drop_size s]
    obtain ⟨s', hs'⟩ : ∃ s', s' = s.extract a s.size := ⟨_, rfl⟩
    rw [← hs'] at hsl hsz hda
    have HDA := Lib.hid hda
    clear hs' hda
    have hbs := hb.size
    obtain ⟨ao, co, rfl, _, _⟩ := rd_of_own hown
    rcases hone : Cr.one s'.data.toList ts.length with _ | ⟨t, m⟩
    · have C := one_none_at s' ts.length wr (by omega) (by omega) hone
      have HC := Lib.hid C
      have HO := Lib.hid hone
      clear C hone
      go_wp2_with fail
      refine HC.out.mono ?_
      rintro e w1 ⟨rfl, hb1⟩
      go_wp2_with fail
      go_ret2
      refine ⟨_, ts, a, ?_, rfl, ?_, hb.step hb1⟩
      · have := HR.out [] 0 (Cr.Reads.stop (by rw [← HDA.out]; exact HO.out))
        simpa using this
      · exact own_below hown hb1
    · have hbd := Cr.one_bd hone
      have C := one_some_at s' ts.length wr (by omega) (by omega) t m hone
      have HC := Lib.hid C
      have HO := Lib.hid hone
      have hl : s'.data.toList.length = s'.size := by simp
      rw [hl] at hbd
      obtain ⟨b1, b2, b3, _⟩ := hbd
      clear C hone hl
      go_wp2_with fail
      refine HC.out.mono ?_
      rintro e w1 ⟨rfl, hw1⟩
      have hown1 : w1.ownsRow w.heap.size 9 1 (.slice ao ts.length co) ts.length (ts.map strv) := by obtain ⟨q, rfl⟩ := hw1; exact hown
      have hb1 : Below w.heap.size w w1 := by obtain ⟨q, rfl⟩ := hw1; exact below_drewN hb q
      have hbs1 := hb1.size
      clear hw1 hown
      go_wp2_with (first
        | (at_builtin; refine app_one (w := w1) rfl (.tmp 23) (.tmp 25) 45 rfl w.heap.size 9 i0 (.string ⟨#[]⟩) 1 16 Tryd.underlying45 hi hiz his hib rfl (by decide) _ _ _ hown1 rfl [.string ⟨t.toArray⟩] rfl rfl (one_str _) (by unfold maxLen; omega) (by omega) (by omega) ?_; intro v2 w2 hown2 hg2))
      go_roundw
      case rel =>
        refine ⟨ts ++ [t], a + m, by omega, by simp; omega, by go_num, by simpa [strv] using hown2, hb1.owngrown hown1 hg2, ?_⟩
        intro ts' m' h
        have h1 : Cr.Reads (s.data.toList.drop a) ts.length (t :: ts') (m + m') := by
          refine Cr.Reads.go (by rw [← HDA.out]; exact HO.out) ?_
          rw [List.drop_drop]
          simpa using h
        have := HR.out _ _ h1
        simpa [Nat.add_assoc] using this
      case measure => simp [intOf]; omega
end Go.Proofs.YtmkkoccnnehkeaaDoor
