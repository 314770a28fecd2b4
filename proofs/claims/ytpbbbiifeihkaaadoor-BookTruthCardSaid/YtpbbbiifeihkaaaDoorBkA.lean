/- The book's Turn and As. -/
import Derived.Test.YtpbbbiifeihkaaaDoorBkS
import Derived.Test.YtpbbbiifeihkaaaDoorBkU
import Derived.Test.YtpbbbiifeihkaaaDoorEvX
namespace Go.Proofs.YtpbbbiifeihkaaaDoor
open Go.Shelf Go.RowKit Go.Lib Go.Sort
set_option linter.unusedVariables false
set_option linter.unusedSimpArgs false

def seenV (T : Int) (l : List Ver) : List Evt := (l.filter (knownAt T)).map Ver.ev
theorem seenV_snoc (T : Int) (l : List Ver) (v : Ver) : seenV T (l ++ [v]) = if knownAt T v then seenV T l ++ [v.ev] else seenV T l := by
  simp only [seenV, List.filter_append, List.filter_cons, List.filter_nil]
  split <;> simp
theorem seenV_len (T : Int) (l : List Ver) : (seenV T l).length ≤ l.length := by
  simp only [seenV, List.length_map]; exact List.length_filter_le _ _
set_option maxHeartbeats 1000000 in
theorem turn_any (B : Nat) (b : Bk) (w : World) (h : BkW w B b) : Calls Tryd.prog 9 #[.pointer (some ⟨B, 0, none⟩)] w fun e w' => e = .returned (.int .i64 b.turn) ∧ w' = w := by
  have c1 := h.c1
  clear h
  go_enter Tryd.func9, Tryd.ntmps9
  go_wp2
  go_ret
  exact ⟨rfl, rfl⟩
set_option maxHeartbeats 4000000 in
set_option maxRecDepth 100000 in
theorem as_low (B : Nat) (b : Bk) (t : Int) (w : World) (h : BkW w B b) (hlen : b.l.length ≤ 1000) (hu : Uniq (seenV (b.turn) b.l)) (h0 : t < 0) :
    Calls Tryd.prog 8 #[.pointer (some ⟨B, 0, none⟩), .int .i64 t] w fun x w' => ∃ v, x = .returned v ∧ w'.ownsRow w.heap.size 34 7 v (seenV (b.turn) b.l).length (flE (Stb.isort leE (seenV (b.turn) b.l))) ∧ Below w.heap.size w w' := by
  have c1 := h.c1
  obtain ⟨v, c0, ho⟩ := h.row
  obtain ⟨xa, xc, rfl⟩ := own_slice ho
  have HR := Lib.hid (rdV_of_own ho)
  obtain ⟨i0, hinf, hiz, his, hib⟩ := info_parts info_evt
  have hBl := h.lt
  have HU := Lib.hid hu
  clear h ho hu
  go_enter Tryd.func8, Tryd.ntmps8
  go_wp2
  go_loopg [5, 27] b.l.length (fun kx v5 i wr => ∃ k : Nat, k ≤ b.l.length ∧ i = .int .i64 k ∧ b.l.length - k ≤ kx ∧ wr.ownsRow w.heap.size 34 7 v5 (seenV (b.turn) (b.l.take k)).length (flE (seenV (b.turn) (b.l.take k))) ∧ Below w.heap.size w wr)
  case atStart => exact ⟨0, by omega, rfl, by omega, World.ownsRow_nil _ _ _ _, Below.refl _ _⟩
  case round =>
    obtain ⟨k, hk, rfl, hkx, ho, hb⟩ := hrel
    obtain ⟨va, vc, rfl⟩ := own_slice ho
    by_cases hlt : k < b.l.length
    · have hltz : (k : Int) < (b.l.length : Int) := by omega
      obtain ⟨g, off, rfl, hbh, h7⟩ := (HR.out.below hb) k hlt
      have c0' := h7 0 _ rfl
      have c1' := h7 1 _ rfl
      have c2' := h7 2 _ rfl
      have c3' := h7 3 _ rfl
      have c4' := h7 4 _ rfl
      have c5' := h7 5 _ rfl
      have c6' := h7 6 _ rfl
      have c7' := h7 7 _ rfl
      have c8' := h7 8 _ rfl
      rw [Nat.add_zero] at c0'
      have HTK : Hid (seenV (b.turn) (b.l.take (k + 1)) = if knownAt (b.turn) b.l[k] then seenV (b.turn) (b.l.take k) ++ [b.l[k].ev] else seenV (b.turn) (b.l.take k)) := by show _ = _; rw [List.take_succ_eq_append_getElem hlt, seenV_snoc]
      have hnl := seenV_len (b.turn) (b.l.take k)
      rw [List.length_take] at hnl
      have hnl : (seenV (b.turn) (b.l.take k)).length ≤ 1000 := by omega
      generalize seenV (b.turn) (b.l.take k) = out at ho HTK hnl ⊢
      clear h7
      generalize b.l[k] = x at c0' c1' c2' c3' c4' c5' c6' c7' c8' HTK
      obtain ⟨⟨i, s, kd, q, p, o, d⟩, f, t'⟩ := x
      simp only at c0' c1' c2' c3' c4' c5' c6' c7' c8'
      have HO := Lib.hid ho
      have HBR := Lib.hid hb
      clear ho hb
      by_cases h1 : f ≤ b.turn
      · by_cases h2 : t' = 0
        · subst h2
          have HKN : Hid (knownAt (b.turn) ⟨⟨i, s, kd, q, p, o, d⟩, f, 0⟩ = true) := by show _ = _; simp [knownAt, h1]
          obtain ⟨m, hm⟩ : ∃ m, m = out.length := ⟨_, rfl⟩
          have HM := Lib.hid hm
          rw [← hm] at HO ⊢ hnl
          clear hm
          have hbs := HBR.out.size
          have ho := HO.out
          go_wp2_with (at_builtin; refine wpList_append_own _ rfl (.tmp 46) (.tmp 49) 37 rfl w.heap.size 34 i0 (.agg #[.int .i64 0, .string ⟨#[]⟩, .int .i64 0, .int .i64 0, .int .i64 0, .int .i64 0, .int .i64 0]) 7 64 Tryd.underlying37 hinf hiz his hib rfl (by decide) _ m (flE out) rfl ((ho.alloc _).alloc _) ⟨wr.heap.size + 1, 0, none⟩ 1 1 (Evt.cells ⟨i, s, kd, q, p, o, d⟩) rfl rfl ?cells (one_evt _) (by unfold maxLen; omega) (by omega) (by simp; omega) ?app)
          case cells => exact fun j u hj => hj
          case app =>
            intro v' w6 ho6 hg6 _
            obtain ⟨xa, xc, rfl⟩ := own_slice ho6
            have hb6 : Below w.heap.size w w6 := ((HBR.out.new _).new _).owngrown ((ho.alloc _).alloc _) hg6
            have HO6 := Lib.hid ho6
            clear ho6 hg6 ho
            go_wp2
            go_roundg (b.l.length - (k + 1))
            case measure => omega
            case rel =>
              refine ⟨k + 1, hlt, by first | rfl | go_num | (congr 1; omega), Nat.le_refl _, ?_, hb6⟩
              rw [HTK.out, if_pos HKN.out, flE_snoc, List.length_append]
              have := HO6.out
              rw [HM.out] at this ⊢
              exact this
        · have h2b : (t' == 0) = false := by simp [h2]
          clear h2
          by_cases h3 : t' > b.turn
          · have HKN : Hid (knownAt (b.turn) ⟨⟨i, s, kd, q, p, o, d⟩, f, t'⟩ = true) := by show _ = _; simp [knownAt, h1]; omega
            obtain ⟨m, hm⟩ : ∃ m, m = out.length := ⟨_, rfl⟩
            have HM := Lib.hid hm
            rw [← hm] at HO ⊢ hnl
            clear hm
            have hbs := HBR.out.size
            have ho := HO.out
            go_wp2_with (at_builtin; refine wpList_append_own _ rfl (.tmp 46) (.tmp 49) 37 rfl w.heap.size 34 i0 (.agg #[.int .i64 0, .string ⟨#[]⟩, .int .i64 0, .int .i64 0, .int .i64 0, .int .i64 0, .int .i64 0]) 7 64 Tryd.underlying37 hinf hiz his hib rfl (by decide) _ m (flE out) rfl ((ho.alloc _).alloc _) ⟨wr.heap.size + 1, 0, none⟩ 1 1 (Evt.cells ⟨i, s, kd, q, p, o, d⟩) rfl rfl ?cells (one_evt _) (by unfold maxLen; omega) (by omega) (by simp; omega) ?app)
            case cells => exact fun j u hj => hj
            case app =>
              intro v' w6 ho6 hg6 _
              obtain ⟨xa, xc, rfl⟩ := own_slice ho6
              have hb6 : Below w.heap.size w w6 := ((HBR.out.new _).new _).owngrown ((ho.alloc _).alloc _) hg6
              have HO6 := Lib.hid ho6
              clear ho6 hg6 ho
              go_wp2
              go_roundg (b.l.length - (k + 1))
              case measure => omega
              case rel =>
                refine ⟨k + 1, hlt, by first | rfl | go_num | (congr 1; omega), Nat.le_refl _, ?_, hb6⟩
                rw [HTK.out, if_pos HKN.out, flE_snoc, List.length_append]
                have := HO6.out
                rw [HM.out] at this ⊢
                exact this
          · have HKN : Hid (knownAt (b.turn) ⟨⟨i, s, kd, q, p, o, d⟩, f, t'⟩ = false) := by show _ = _; simp only [knownAt, h2b, Bool.false_or]; simp; omega
            go_wp2_with fail
            go_roundg (b.l.length - (k + 1))
            case measure => omega
            case rel =>
              refine ⟨k + 1, hlt, by first | rfl | go_num | (congr 1; omega), Nat.le_refl _, ?_, HBR.out.new _⟩
              rw [HTK.out, if_neg (by rw [HKN.out]; simp)]
              exact own_below HO.out ((Below.refl _ wr).new _)
      · have HKN : Hid (knownAt (b.turn) ⟨⟨i, s, kd, q, p, o, d⟩, f, t'⟩ = false) := by show _ = _; simp [knownAt, h1]
        go_wp2_with fail
        go_roundg (b.l.length - (k + 1))
        case measure => omega
        case rel =>
          refine ⟨k + 1, hlt, by first | rfl | go_num | (congr 1; omega), Nat.le_refl _, ?_, HBR.out.new _⟩
          rw [HTK.out, if_neg (by rw [HKN.out]; simp)]
          exact own_below HO.out ((Below.refl _ wr).new _)
    · have hltz : ¬ (k : Int) < (b.l.length : Int) := by omega
      have hke : k = b.l.length := by omega
      subst hke
      rw [List.take_length] at ho
      have hsl := seenV_len (b.turn) b.l
      have HS := Lib.hid (sortE_any w.heap.size _ _ wr (by omega) HU.out ho hb.size)
      have HB := Lib.hid hb
      clear ho hb
      go_wp2_with (go_at_call 12; refine HS.out.mono ?_; rintro e w5 ⟨rfl, hb5, ho5⟩)
      go_ret
      exact ⟨_, rfl, ho5, HB.out.trans hb5⟩
set_option maxHeartbeats 4000000 in
set_option maxRecDepth 100000 in
theorem as_high (B : Nat) (b : Bk) (t : Int) (w : World) (h : BkW w B b) (hlen : b.l.length ≤ 1000) (hu : Uniq (seenV (b.turn) b.l)) (h0 : ¬ t < 0) (h0b : t > b.turn) :
    Calls Tryd.prog 8 #[.pointer (some ⟨B, 0, none⟩), .int .i64 t] w fun x w' => ∃ v, x = .returned v ∧ w'.ownsRow w.heap.size 34 7 v (seenV (b.turn) b.l).length (flE (Stb.isort leE (seenV (b.turn) b.l))) ∧ Below w.heap.size w w' := by
  have c1 := h.c1
  obtain ⟨v, c0, ho⟩ := h.row
  obtain ⟨xa, xc, rfl⟩ := own_slice ho
  have HR := Lib.hid (rdV_of_own ho)
  obtain ⟨i0, hinf, hiz, his, hib⟩ := info_parts info_evt
  have hBl := h.lt
  have HU := Lib.hid hu
  clear h ho hu
  go_enter Tryd.func8, Tryd.ntmps8
  go_wp2
  go_loopg [5, 27] b.l.length (fun kx v5 i wr => ∃ k : Nat, k ≤ b.l.length ∧ i = .int .i64 k ∧ b.l.length - k ≤ kx ∧ wr.ownsRow w.heap.size 34 7 v5 (seenV (b.turn) (b.l.take k)).length (flE (seenV (b.turn) (b.l.take k))) ∧ Below w.heap.size w wr)
  case atStart => exact ⟨0, by omega, rfl, by omega, World.ownsRow_nil _ _ _ _, Below.refl _ _⟩
  case round =>
    obtain ⟨k, hk, rfl, hkx, ho, hb⟩ := hrel
    obtain ⟨va, vc, rfl⟩ := own_slice ho
    by_cases hlt : k < b.l.length
    · have hltz : (k : Int) < (b.l.length : Int) := by omega
      obtain ⟨g, off, rfl, hbh, h7⟩ := (HR.out.below hb) k hlt
      have c0' := h7 0 _ rfl
      have c1' := h7 1 _ rfl
      have c2' := h7 2 _ rfl
      have c3' := h7 3 _ rfl
      have c4' := h7 4 _ rfl
      have c5' := h7 5 _ rfl
      have c6' := h7 6 _ rfl
      have c7' := h7 7 _ rfl
      have c8' := h7 8 _ rfl
      rw [Nat.add_zero] at c0'
      have HTK : Hid (seenV (b.turn) (b.l.take (k + 1)) = if knownAt (b.turn) b.l[k] then seenV (b.turn) (b.l.take k) ++ [b.l[k].ev] else seenV (b.turn) (b.l.take k)) := by show _ = _; rw [List.take_succ_eq_append_getElem hlt, seenV_snoc]
      have hnl := seenV_len (b.turn) (b.l.take k)
      rw [List.length_take] at hnl
      have hnl : (seenV (b.turn) (b.l.take k)).length ≤ 1000 := by omega
      generalize seenV (b.turn) (b.l.take k) = out at ho HTK hnl ⊢
      clear h7
      generalize b.l[k] = x at c0' c1' c2' c3' c4' c5' c6' c7' c8' HTK
      obtain ⟨⟨i, s, kd, q, p, o, d⟩, f, t'⟩ := x
      simp only at c0' c1' c2' c3' c4' c5' c6' c7' c8'
      have HO := Lib.hid ho
      have HBR := Lib.hid hb
      clear ho hb
      by_cases h1 : f ≤ b.turn
      · by_cases h2 : t' = 0
        · subst h2
          have HKN : Hid (knownAt (b.turn) ⟨⟨i, s, kd, q, p, o, d⟩, f, 0⟩ = true) := by show _ = _; simp [knownAt, h1]
          obtain ⟨m, hm⟩ : ∃ m, m = out.length := ⟨_, rfl⟩
          have HM := Lib.hid hm
          rw [← hm] at HO ⊢ hnl
          clear hm
          have hbs := HBR.out.size
          have ho := HO.out
          go_wp2_with (at_builtin; refine wpList_append_own _ rfl (.tmp 46) (.tmp 49) 37 rfl w.heap.size 34 i0 (.agg #[.int .i64 0, .string ⟨#[]⟩, .int .i64 0, .int .i64 0, .int .i64 0, .int .i64 0, .int .i64 0]) 7 64 Tryd.underlying37 hinf hiz his hib rfl (by decide) _ m (flE out) rfl ((ho.alloc _).alloc _) ⟨wr.heap.size + 1, 0, none⟩ 1 1 (Evt.cells ⟨i, s, kd, q, p, o, d⟩) rfl rfl ?cells (one_evt _) (by unfold maxLen; omega) (by omega) (by simp; omega) ?app)
          case cells => exact fun j u hj => hj
          case app =>
            intro v' w6 ho6 hg6 _
            obtain ⟨xa, xc, rfl⟩ := own_slice ho6
            have hb6 : Below w.heap.size w w6 := ((HBR.out.new _).new _).owngrown ((ho.alloc _).alloc _) hg6
            have HO6 := Lib.hid ho6
            clear ho6 hg6 ho
            go_wp2
            go_roundg (b.l.length - (k + 1))
            case measure => omega
            case rel =>
              refine ⟨k + 1, hlt, by first | rfl | go_num | (congr 1; omega), Nat.le_refl _, ?_, hb6⟩
              rw [HTK.out, if_pos HKN.out, flE_snoc, List.length_append]
              have := HO6.out
              rw [HM.out] at this ⊢
              exact this
        · have h2b : (t' == 0) = false := by simp [h2]
          clear h2
          by_cases h3 : t' > b.turn
          · have HKN : Hid (knownAt (b.turn) ⟨⟨i, s, kd, q, p, o, d⟩, f, t'⟩ = true) := by show _ = _; simp [knownAt, h1]; omega
            obtain ⟨m, hm⟩ : ∃ m, m = out.length := ⟨_, rfl⟩
            have HM := Lib.hid hm
            rw [← hm] at HO ⊢ hnl
            clear hm
            have hbs := HBR.out.size
            have ho := HO.out
            go_wp2_with (at_builtin; refine wpList_append_own _ rfl (.tmp 46) (.tmp 49) 37 rfl w.heap.size 34 i0 (.agg #[.int .i64 0, .string ⟨#[]⟩, .int .i64 0, .int .i64 0, .int .i64 0, .int .i64 0, .int .i64 0]) 7 64 Tryd.underlying37 hinf hiz his hib rfl (by decide) _ m (flE out) rfl ((ho.alloc _).alloc _) ⟨wr.heap.size + 1, 0, none⟩ 1 1 (Evt.cells ⟨i, s, kd, q, p, o, d⟩) rfl rfl ?cells (one_evt _) (by unfold maxLen; omega) (by omega) (by simp; omega) ?app)
            case cells => exact fun j u hj => hj
            case app =>
              intro v' w6 ho6 hg6 _
              obtain ⟨xa, xc, rfl⟩ := own_slice ho6
              have hb6 : Below w.heap.size w w6 := ((HBR.out.new _).new _).owngrown ((ho.alloc _).alloc _) hg6
              have HO6 := Lib.hid ho6
              clear ho6 hg6 ho
              go_wp2
              go_roundg (b.l.length - (k + 1))
              case measure => omega
              case rel =>
                refine ⟨k + 1, hlt, by first | rfl | go_num | (congr 1; omega), Nat.le_refl _, ?_, hb6⟩
                rw [HTK.out, if_pos HKN.out, flE_snoc, List.length_append]
                have := HO6.out
                rw [HM.out] at this ⊢
                exact this
          · have HKN : Hid (knownAt (b.turn) ⟨⟨i, s, kd, q, p, o, d⟩, f, t'⟩ = false) := by show _ = _; simp only [knownAt, h2b, Bool.false_or]; simp; omega
            go_wp2_with fail
            go_roundg (b.l.length - (k + 1))
            case measure => omega
            case rel =>
              refine ⟨k + 1, hlt, by first | rfl | go_num | (congr 1; omega), Nat.le_refl _, ?_, HBR.out.new _⟩
              rw [HTK.out, if_neg (by rw [HKN.out]; simp)]
              exact own_below HO.out ((Below.refl _ wr).new _)
      · have HKN : Hid (knownAt (b.turn) ⟨⟨i, s, kd, q, p, o, d⟩, f, t'⟩ = false) := by show _ = _; simp [knownAt, h1]
        go_wp2_with fail
        go_roundg (b.l.length - (k + 1))
        case measure => omega
        case rel =>
          refine ⟨k + 1, hlt, by first | rfl | go_num | (congr 1; omega), Nat.le_refl _, ?_, HBR.out.new _⟩
          rw [HTK.out, if_neg (by rw [HKN.out]; simp)]
          exact own_below HO.out ((Below.refl _ wr).new _)
    · have hltz : ¬ (k : Int) < (b.l.length : Int) := by omega
      have hke : k = b.l.length := by omega
      subst hke
      rw [List.take_length] at ho
      have hsl := seenV_len (b.turn) b.l
      have HS := Lib.hid (sortE_any w.heap.size _ _ wr (by omega) HU.out ho hb.size)
      have HB := Lib.hid hb
      clear ho hb
      go_wp2_with (go_at_call 12; refine HS.out.mono ?_; rintro e w5 ⟨rfl, hb5, ho5⟩)
      go_ret
      exact ⟨_, rfl, ho5, HB.out.trans hb5⟩
set_option maxHeartbeats 4000000 in
set_option maxRecDepth 100000 in
theorem as_in (B : Nat) (b : Bk) (t : Int) (w : World) (h : BkW w B b) (hlen : b.l.length ≤ 1000) (hu : Uniq (seenV (t) b.l)) (h0 : ¬ t < 0) (h0b : ¬ t > b.turn) :
    Calls Tryd.prog 8 #[.pointer (some ⟨B, 0, none⟩), .int .i64 t] w fun x w' => ∃ v, x = .returned v ∧ w'.ownsRow w.heap.size 34 7 v (seenV (t) b.l).length (flE (Stb.isort leE (seenV (t) b.l))) ∧ Below w.heap.size w w' := by
  have c1 := h.c1
  obtain ⟨v, c0, ho⟩ := h.row
  obtain ⟨xa, xc, rfl⟩ := own_slice ho
  have HR := Lib.hid (rdV_of_own ho)
  obtain ⟨i0, hinf, hiz, his, hib⟩ := info_parts info_evt
  have hBl := h.lt
  have HU := Lib.hid hu
  clear h ho hu
  go_enter Tryd.func8, Tryd.ntmps8
  go_wp2
  go_loopg [5, 27] b.l.length (fun kx v5 i wr => ∃ k : Nat, k ≤ b.l.length ∧ i = .int .i64 k ∧ b.l.length - k ≤ kx ∧ wr.ownsRow w.heap.size 34 7 v5 (seenV (t) (b.l.take k)).length (flE (seenV (t) (b.l.take k))) ∧ Below w.heap.size w wr)
  case atStart => exact ⟨0, by omega, rfl, by omega, World.ownsRow_nil _ _ _ _, Below.refl _ _⟩
  case round =>
    obtain ⟨k, hk, rfl, hkx, ho, hb⟩ := hrel
    obtain ⟨va, vc, rfl⟩ := own_slice ho
    by_cases hlt : k < b.l.length
    · have hltz : (k : Int) < (b.l.length : Int) := by omega
      obtain ⟨g, off, rfl, hbh, h7⟩ := (HR.out.below hb) k hlt
      have c0' := h7 0 _ rfl
      have c1' := h7 1 _ rfl
      have c2' := h7 2 _ rfl
      have c3' := h7 3 _ rfl
      have c4' := h7 4 _ rfl
      have c5' := h7 5 _ rfl
      have c6' := h7 6 _ rfl
      have c7' := h7 7 _ rfl
      have c8' := h7 8 _ rfl
      rw [Nat.add_zero] at c0'
      have HTK : Hid (seenV (t) (b.l.take (k + 1)) = if knownAt (t) b.l[k] then seenV (t) (b.l.take k) ++ [b.l[k].ev] else seenV (t) (b.l.take k)) := by show _ = _; rw [List.take_succ_eq_append_getElem hlt, seenV_snoc]
      have hnl := seenV_len (t) (b.l.take k)
      rw [List.length_take] at hnl
      have hnl : (seenV (t) (b.l.take k)).length ≤ 1000 := by omega
      generalize seenV (t) (b.l.take k) = out at ho HTK hnl ⊢
      clear h7
      generalize b.l[k] = x at c0' c1' c2' c3' c4' c5' c6' c7' c8' HTK
      obtain ⟨⟨i, s, kd, q, p, o, d⟩, f, t'⟩ := x
      simp only at c0' c1' c2' c3' c4' c5' c6' c7' c8'
      have HO := Lib.hid ho
      have HBR := Lib.hid hb
      clear ho hb
      by_cases h1 : f ≤ t
      · by_cases h2 : t' = 0
        · subst h2
          have HKN : Hid (knownAt (t) ⟨⟨i, s, kd, q, p, o, d⟩, f, 0⟩ = true) := by show _ = _; simp [knownAt, h1]
          obtain ⟨m, hm⟩ : ∃ m, m = out.length := ⟨_, rfl⟩
          have HM := Lib.hid hm
          rw [← hm] at HO ⊢ hnl
          clear hm
          have hbs := HBR.out.size
          have ho := HO.out
          go_wp2_with (at_builtin; refine wpList_append_own _ rfl (.tmp 46) (.tmp 49) 37 rfl w.heap.size 34 i0 (.agg #[.int .i64 0, .string ⟨#[]⟩, .int .i64 0, .int .i64 0, .int .i64 0, .int .i64 0, .int .i64 0]) 7 64 Tryd.underlying37 hinf hiz his hib rfl (by decide) _ m (flE out) rfl ((ho.alloc _).alloc _) ⟨wr.heap.size + 1, 0, none⟩ 1 1 (Evt.cells ⟨i, s, kd, q, p, o, d⟩) rfl rfl ?cells (one_evt _) (by unfold maxLen; omega) (by omega) (by simp; omega) ?app)
          case cells => exact fun j u hj => hj
          case app =>
            intro v' w6 ho6 hg6 _
            obtain ⟨xa, xc, rfl⟩ := own_slice ho6
            have hb6 : Below w.heap.size w w6 := ((HBR.out.new _).new _).owngrown ((ho.alloc _).alloc _) hg6
            have HO6 := Lib.hid ho6
            clear ho6 hg6 ho
            go_wp2
            go_roundg (b.l.length - (k + 1))
            case measure => omega
            case rel =>
              refine ⟨k + 1, hlt, by first | rfl | go_num | (congr 1; omega), Nat.le_refl _, ?_, hb6⟩
              rw [HTK.out, if_pos HKN.out, flE_snoc, List.length_append]
              have := HO6.out
              rw [HM.out] at this ⊢
              exact this
        · have h2b : (t' == 0) = false := by simp [h2]
          clear h2
          by_cases h3 : t' > t
          · have HKN : Hid (knownAt (t) ⟨⟨i, s, kd, q, p, o, d⟩, f, t'⟩ = true) := by show _ = _; simp [knownAt, h1]; omega
            obtain ⟨m, hm⟩ : ∃ m, m = out.length := ⟨_, rfl⟩
            have HM := Lib.hid hm
            rw [← hm] at HO ⊢ hnl
            clear hm
            have hbs := HBR.out.size
            have ho := HO.out
            go_wp2_with (at_builtin; refine wpList_append_own _ rfl (.tmp 46) (.tmp 49) 37 rfl w.heap.size 34 i0 (.agg #[.int .i64 0, .string ⟨#[]⟩, .int .i64 0, .int .i64 0, .int .i64 0, .int .i64 0, .int .i64 0]) 7 64 Tryd.underlying37 hinf hiz his hib rfl (by decide) _ m (flE out) rfl ((ho.alloc _).alloc _) ⟨wr.heap.size + 1, 0, none⟩ 1 1 (Evt.cells ⟨i, s, kd, q, p, o, d⟩) rfl rfl ?cells (one_evt _) (by unfold maxLen; omega) (by omega) (by simp; omega) ?app)
            case cells => exact fun j u hj => hj
            case app =>
              intro v' w6 ho6 hg6 _
              obtain ⟨xa, xc, rfl⟩ := own_slice ho6
              have hb6 : Below w.heap.size w w6 := ((HBR.out.new _).new _).owngrown ((ho.alloc _).alloc _) hg6
              have HO6 := Lib.hid ho6
              clear ho6 hg6 ho
              go_wp2
              go_roundg (b.l.length - (k + 1))
              case measure => omega
              case rel =>
                refine ⟨k + 1, hlt, by first | rfl | go_num | (congr 1; omega), Nat.le_refl _, ?_, hb6⟩
                rw [HTK.out, if_pos HKN.out, flE_snoc, List.length_append]
                have := HO6.out
                rw [HM.out] at this ⊢
                exact this
          · have HKN : Hid (knownAt (t) ⟨⟨i, s, kd, q, p, o, d⟩, f, t'⟩ = false) := by show _ = _; simp only [knownAt, h2b, Bool.false_or]; simp; omega
            go_wp2_with fail
            go_roundg (b.l.length - (k + 1))
            case measure => omega
            case rel =>
              refine ⟨k + 1, hlt, by first | rfl | go_num | (congr 1; omega), Nat.le_refl _, ?_, HBR.out.new _⟩
              rw [HTK.out, if_neg (by rw [HKN.out]; simp)]
              exact own_below HO.out ((Below.refl _ wr).new _)
      · have HKN : Hid (knownAt (t) ⟨⟨i, s, kd, q, p, o, d⟩, f, t'⟩ = false) := by show _ = _; simp [knownAt, h1]
        go_wp2_with fail
        go_roundg (b.l.length - (k + 1))
        case measure => omega
        case rel =>
          refine ⟨k + 1, hlt, by first | rfl | go_num | (congr 1; omega), Nat.le_refl _, ?_, HBR.out.new _⟩
          rw [HTK.out, if_neg (by rw [HKN.out]; simp)]
          exact own_below HO.out ((Below.refl _ wr).new _)
    · have hltz : ¬ (k : Int) < (b.l.length : Int) := by omega
      have hke : k = b.l.length := by omega
      subst hke
      rw [List.take_length] at ho
      have hsl := seenV_len (t) b.l
      have HS := Lib.hid (sortE_any w.heap.size _ _ wr (by omega) HU.out ho hb.size)
      have HB := Lib.hid hb
      clear ho hb
      go_wp2_with (go_at_call 12; refine HS.out.mono ?_; rintro e w5 ⟨rfl, hb5, ho5⟩)
      go_ret
      exact ⟨_, rfl, ho5, HB.out.trans hb5⟩
theorem as_any (B : Nat) (b : Bk) (t : Int) (w : World) (h : BkW w B b) (hI : BkI b) :
    Calls Tryd.prog 8 #[.pointer (some ⟨B, 0, none⟩), .int .i64 t] w fun x w' => ∃ v, x = .returned v ∧ w'.ownsRow w.heap.size 34 7 v (b.as t).length (flE (b.as t)) ∧ Below w.heap.size w w' := by
  have hl : (b.as t).length = (seenV (b.at t) b.l).length := by unfold Bk.as; exact (isort_perm _).length_eq
  have hu := hI.uniq (b.at t)
  have hlen := hI.len
  rw [hl]
  unfold Bk.as Bk.at at *
  by_cases h0 : t < 0
  · rw [if_pos (Or.inl h0)] at hu ⊢
    exact as_low B b t w h (by omega) hu h0
  · by_cases h1 : t > b.turn
    · rw [if_pos (Or.inr h1)] at hu ⊢
      exact as_high B b t w h (by omega) hu h0 h1
    · rw [if_neg (by omega)] at hu ⊢
      exact as_in B b t w h (by omega) hu h0 h1
end Go.Proofs.YtpbbbiifeihkaaaDoor
