/- tallymanref.Read: what it hands back. -/
import Derived.Test.YtmkkoccnnehkeaaDoorRcF
import Derived.Test.YtmkkoccnnehkeaaDoorCrcR
namespace Go.Proofs.YtmkkoccnnehkeaaDoor
open Go.RowKit

theorem ext_take_drop (s : ByteArray) (a b c : Nat) (h : a ≤ b) (h2 : b ≤ c) : (s.extract b c).data.toList = ((s.data.toList.drop a).take (c - a)).drop (b - a) := by
  rw [Lib.extract_data, List.drop_take, List.drop_drop]
  congr 1
  · omega
  · congr 1; omega

theorem getD_drop (l : List UInt8) (a i : Nat) : (l.drop a).getD i 0 = l.getD (a + i) 0 := by
  simp [List.getD]

set_option maxHeartbeats 4000000 in
set_option maxRecDepth 100000 in
theorem refRead_any (s : ByteArray) (w : World) (hs : s.size ≤ 100000) : Calls Tryd.prog 18 #[.string s] w (ReadPost s w) := by
  obtain ⟨i0, hi, hiz, his, hib⟩ := info_parts info_str
  go_enter Tryd.func18, Tryd.ntmps18
  go_wp2
  go_loopw [4, 5] (fun v p wr => ∃ (ts : List (List UInt8)) (a : Nat), a ≤ s.size ∧ 16 * ts.length ≤ a ∧ p = .int .i64 a ∧ wr.ownsRow w.heap.size 9 1 v ts.length (ts.map strv) ∧ Below w.heap.size w wr ∧
      Hid (∀ ts' m', Cr.Reads (s.data.toList.drop a) ts.length ts' m' → Cr.Reads s.data.toList 0 (ts ++ ts') (a + m'))) (fun _ p _ => s.size - (intOf p).toNat)
  case atStart => exact ⟨[], 0, by omega, by simp, rfl, World.ownsRow_nil _ _ _ _, Below.refl _ _, fun ts' m' h => by simpa using h⟩
  case round =>
    obtain ⟨ts, a, ha, hts, rfl, hown, hb, HR⟩ := hrel
    have hbs := hb.size
    obtain ⟨ao, co, rfl, _, _⟩ := rd_of_own hown
    have hdl : (s.data.toList.drop a).length = s.size - a := by simp
    have HONE := Lib.hid (Cr.one_iff (s.data.toList.drop a) ts.length (by omega))
    rw [hdl] at HONE
    by_cases h16 : s.size - a < 16
    · have hno : Cr.one (s.data.toList.drop a) ts.length = none := by rw [HONE.out, if_neg (fun h => by omega)]
      have HN := Lib.hid hno
      clear hno hdl
      go_wp2
      go_ret2
      refine ⟨_, ts, a, ?_, rfl, hown, hb⟩
      have := HR.out [] 0 (Cr.Reads.stop HN.out)
      simpa using this
    · have j0 := index_at (P := Tryd.prog) 9 Tryd.underlying9 s a a rfl (by omega)
      have j1 := index_at (P := Tryd.prog) 9 Tryd.underlying9 s (a + 1) ((a : Int) + 1) (by omega) (by omega)
      have j2 := index_at (P := Tryd.prog) 9 Tryd.underlying9 s (a + 2) ((a : Int) + 2) (by omega) (by omega)
      have j3 := index_at (P := Tryd.prog) 9 Tryd.underlying9 s (a + 3) ((a : Int) + 3) (by omega) (by omega)
      have b0 := UInt8.toNat_lt (s.data.toList.getD a 0)
      have b1 := UInt8.toNat_lt (s.data.toList.getD (a + 1) 0)
      have b2 := UInt8.toNat_lt (s.data.toList.getD (a + 2) 0)
      have b3 := UInt8.toNat_lt (s.data.toList.getD (a + 3) 0)
      have hg : Cr.get (s.data.toList.drop a) = (s.data.toList.getD a 0).toNat + 256 * (s.data.toList.getD (a + 1) 0).toNat + 65536 * (s.data.toList.getD (a + 2) 0).toNat + 16777216 * (s.data.toList.getD (a + 3) 0).toNat := by
        unfold Cr.get
        rw [getD_drop, getD_drop, getD_drop, getD_drop]
        rfl
      obtain ⟨x0, h0⟩ : ∃ x, x = (s.data.toList.getD a 0).toNat := ⟨_, rfl⟩
      obtain ⟨x1, h1⟩ : ∃ x, x = (s.data.toList.getD (a + 1) 0).toNat := ⟨_, rfl⟩
      obtain ⟨x2, h2⟩ : ∃ x, x = (s.data.toList.getD (a + 2) 0).toNat := ⟨_, rfl⟩
      obtain ⟨x3, h3⟩ : ∃ x, x = (s.data.toList.getD (a + 3) 0).toNat := ⟨_, rfl⟩
      rw [← h0] at j0 b0 hg
      rw [← h1] at j1 b1 hg
      rw [← h2] at j2 b2 hg
      rw [← h3] at j3 b3 hg
      obtain ⟨K, hK⟩ : ∃ K, K = Cr.get (s.data.toList.drop a) := ⟨_, rfl⟩
      rw [← hK] at hg HONE
      clear h0 h1 h2 h3 hK hdl
      have e1 : IntKind.i64.wrap ((a : Int) + 1) = (a : Int) + 1 := IntWalk.i64_in _ ⟨by omega, by omega⟩
      have e2 : IntKind.i64.wrap ((a : Int) + 2) = (a : Int) + 2 := IntWalk.i64_in _ ⟨by omega, by omega⟩
      have e3 : IntKind.i64.wrap ((a : Int) + 3) = (a : Int) + 3 := IntWalk.i64_in _ ⟨by omega, by omega⟩
      have c0 : IntKind.i64.wrap (x0 : Int) = x0 := IntWalk.i64_in _ ⟨by omega, by omega⟩
      have c1 : IntKind.i64.wrap (x1 : Int) = x1 := IntWalk.i64_in _ ⟨by omega, by omega⟩
      have c2 : IntKind.i64.wrap (x2 : Int) = x2 := IntWalk.i64_in _ ⟨by omega, by omega⟩
      have c3 : IntKind.i64.wrap (x3 : Int) = x3 := IntWalk.i64_in _ ⟨by omega, by omega⟩
      have m1 : IntKind.i64.wrap (256 * (x1 : Int)) = 256 * x1 := IntWalk.i64_in _ ⟨by omega, by omega⟩
      have m2 : IntKind.i64.wrap (65536 * (x2 : Int)) = 65536 * x2 := IntWalk.i64_in _ ⟨by omega, by omega⟩
      have m3 : IntKind.i64.wrap (16777216 * (x3 : Int)) = 16777216 * x3 := IntWalk.i64_in _ ⟨by omega, by omega⟩
      have s1 : IntKind.i64.wrap ((x0 : Int) + 256 * x1) = (x0 : Int) + 256 * x1 := IntWalk.i64_in _ ⟨by omega, by omega⟩
      have s2 : IntKind.i64.wrap ((x0 : Int) + 256 * x1 + 65536 * x2) = (x0 : Int) + 256 * x1 + 65536 * x2 := IntWalk.i64_in _ ⟨by omega, by omega⟩
      have s3 : IntKind.i64.wrap ((x0 : Int) + 256 * x1 + 65536 * x2 + 16777216 * x3) = (K : Int) := by rw [IntWalk.i64_in _ ⟨by omega, by omega⟩]; omega
      have hK2 : K ≤ 5000000000 := by omega
      clear hg
      by_cases ck : 200 < K
      · have hno : Cr.one (s.data.toList.drop a) ts.length = none := by rw [HONE.out, if_neg (fun h => by have := h.2.1; clear e1 e2 e3 c0 c1 c2 c3 m1 m2 m3 s1 s2 s3; omega)]
        have HN := Lib.hid hno
        clear hno
        go_wp2
        go_quiet (fail)
        generalize hw2 : World.drewN wr _ = w2
        have hb2 : Below w.heap.size w w2 := by rw [← hw2]; exact below_drewN hb _
        have hown2 : w2.ownsRow w.heap.size 9 1 (.slice ao ts.length co) ts.length (ts.map strv) := by rw [← hw2]; exact hown
        have hbs2 := hb2.size
        clear hw2 e1 e2 e3 c0 c1 c2 c3 m1 m2 m3 s1 s2 s3 j0 j1 j2 j3 hown hb hbs
        go_wp2
        go_ret2
        refine ⟨_, ts, a, ?_, rfl, hown2, hb2⟩
        have := HR.out [] 0 (Cr.Reads.stop HN.out)
        simpa using this
      · by_cases cl : s.size - a < 16 + K
        · have hno : Cr.one (s.data.toList.drop a) ts.length = none := by rw [HONE.out, if_neg (fun h => by have := h.2.2.1; clear e1 e2 e3 c0 c1 c2 c3 m1 m2 m3 s1 s2 s3; omega)]
          have HN := Lib.hid hno
          clear hno
          go_wp2
          go_quiet (fail)
          generalize hw2 : World.drewN wr _ = w2
          have hb2 : Below w.heap.size w w2 := by rw [← hw2]; exact below_drewN hb _
          have hown2 : w2.ownsRow w.heap.size 9 1 (.slice ao ts.length co) ts.length (ts.map strv) := by rw [← hw2]; exact hown
          have hbs2 := hb2.size
          clear hw2 e1 e2 e3 c0 c1 c2 c3 m1 m2 m3 s1 s2 s3 j0 j1 j2 j3 hown hb hbs
          go_wp2
          go_ret2
          refine ⟨_, ts, a, ?_, rfl, hown2, hb2⟩
          have := HR.out [] 0 (Cr.Reads.stop HN.out)
          simpa using this
        · have hz1 : a + 12 + K ≤ s.size := by clear e1 e2 e3 c0 c1 c2 c3 m1 m2 m3 s1 s2 s3; omega
          have hz2 : a + 16 + K ≤ s.size := by clear e1 e2 e3 c0 c1 c2 c3 m1 m2 m3 s1 s2 s3; omega
          have hn0 : 16 * ts.length ≤ 100000 := by clear e1 e2 e3 c0 c1 c2 c3 m1 m2 m3 s1 s2 s3; omega
          go_wp2
          go_quiet (fail)
          generalize hw2 : World.drewN wr _ = w2
          have hb2 : Below w.heap.size w w2 := by rw [← hw2]; exact below_drewN hb _
          have hown2 : w2.ownsRow w.heap.size 9 1 (.slice ao ts.length co) ts.length (ts.map strv) := by rw [← hw2]; exact hown
          have hbs2 := hb2.size
          clear hw2 e1 e2 e3 c0 c1 c2 c3 m1 m2 m3 s1 s2 s3 j0 j1 j2 j3 hown hb hbs
          have l1 := slice_mid (P := Tryd.prog) 9 Tryd.underlying9 s (a + 12) (a + 12 + K) ((a : Int) + 12) ((a : Int) + 12 + K) (by omega) (by omega) (by omega) hz1
          have l2 := slice_mid (P := Tryd.prog) 9 Tryd.underlying9 s a (a + 16 + K) (a : Int) ((a : Int) + 16 + K) rfl (by omega) (by omega) hz2
          have ht : (s.extract (a + 12) (a + 12 + K)).data.toList = ((s.data.toList.drop a).take (12 + K)).drop 12 := by
            rw [ext_take_drop s a _ _ (by omega) (by omega), show a + 12 + K - a = 12 + K by omega, show a + 12 - a = 12 by omega]
          have hf : (s.extract a (a + 16 + K)).data.toList = (s.data.toList.drop a).take (16 + K) := by
            rw [ext_take_drop s a a _ (by omega) (by omega), show a + 16 + K - a = 16 + K by omega, show a - a = 0 by omega, List.drop_zero]
          obtain ⟨t, ht0⟩ : ∃ t, t = s.extract (a + 12) (a + 12 + K) := ⟨_, rfl⟩
          obtain ⟨f, hf0⟩ : ∃ f, f = s.extract a (a + 16 + K) := ⟨_, rfl⟩
          rw [← ht0] at l1 ht
          rw [← hf0] at l2 hf
          have htz : t.size = K := by rw [ht0]; simp; omega
          have htz2 : t.size ≤ 200 := by omega
          have HF : Hid (∀ w1, Calls Tryd.prog 13 #[.int .i64 (ts.length : Int), .string t] w1 (Gives (.tuple #[.string ⟨(Cr.frame ts.length t.data.toList).toArray⟩, .int .i64 0]) w1)) := Lib.hid (fun w1 => by
            have := refFrame_ok (ts.length : Int) t w1 htz2 (by omega) (by omega)
            rw [Int.toNat_natCast] at this
            exact this)
          rw [← ht, ← hf] at HONE
          obtain ⟨F, hF⟩ : ∃ F, F = Cr.frame ts.length t.data.toList := ⟨_, rfl⟩
          rw [← hF] at HF HONE
          have hFl : F.length ≤ 216 := by rw [hF, Cr.frame_len]; simp; omega
          have HTZ := Lib.hid htz
          clear ht0 hf0 ht hf hF htz
          by_cases ce : f.data.toList = F
          · have hone : Cr.one (s.data.toList.drop a) ts.length = some (t.data.toList, 16 + K) := by rw [HONE.out, if_pos ⟨by omega, by omega, by omega, ce⟩]
            have HN := Lib.hid hone
            have hq : (f.toList == F) = true := by rw [Go.ByteArray.toList_eq, ce]; simp
            clear hone ce
            go_wp2_with fail
            refine (HF.out _).mono ?_
            rintro e w3 ⟨rfl, hb3⟩
            have hown3 : w3.ownsRow w.heap.size 9 1 (.slice ao ts.length co) ts.length (ts.map strv) := own_below hown2 hb3
            replace hb2 := hb2.step hb3
            have hbs3 := hb2.size
            clear hown2 hb3 hbs2
            go_wp2_with (first
              | (at_builtin; refine app_one (w := w3) rfl (.tmp 75) (.tmp 77) 45 rfl w.heap.size 9 i0 (.string ⟨#[]⟩) 1 16 Tryd.underlying45 hi hiz his hib rfl (by decide) _ _ _ hown3 rfl [.string t] rfl rfl (one_str _) (by unfold maxLen; omega) (by omega) (by omega) ?_; intro v4 w4 hown4 hg4))
            go_roundw
            case rel =>
              refine ⟨ts ++ [t.data.toList], a + (16 + K), by omega, by simp; omega, by go_num, by simpa [strv] using hown4, hb2.owngrown hown3 hg4, ?_⟩
              refine Lib.hid ?_
              intro ts' m' h
              have h1 : Cr.Reads (s.data.toList.drop a) ts.length (t.data.toList :: ts') ((16 + K) + m') := by
                refine Cr.Reads.go HN.out ?_
                rw [List.drop_drop]
                simpa using h
              have := HR.out _ _ h1
              simpa [Nat.add_assoc] using this
            case measure => simp [intOf]; omega
          · have hno : Cr.one (s.data.toList.drop a) ts.length = none := by rw [HONE.out, if_neg (fun h => ce h.2.2.2)]
            have HN := Lib.hid hno
            have hq : (f.toList == F) = false := by rw [Go.ByteArray.toList_eq]; simpa using ce
            clear hno ce
            go_wp2_with fail
            refine (HF.out _).mono ?_
            rintro e w3 ⟨rfl, hb3⟩
            have hown3 : w3.ownsRow w.heap.size 9 1 (.slice ao ts.length co) ts.length (ts.map strv) := own_below hown2 hb3
            replace hb2 := hb2.step hb3
            clear hown2 hb3 hbs2
            go_wp2
            go_ret2
            refine ⟨_, ts, a, ?_, rfl, hown3, hb2⟩
            have := HR.out [] 0 (Cr.Reads.stop HN.out)
            simpa using this
end Go.Proofs.YtmkkoccnnehkeaaDoor
