/- Joined: BkS, BkA. -/
import Derived.Test.YtackpcohmmlkeaaGreatDoorCsRp
import Derived.Test.YtackpcohmmlkeaaGreatDoorSortK
import Derived.Test.YtackpcohmmlkeaaGreatDoorBkU
import Derived.Test.YtackpcohmmlkeaaGreatDoorEvX

/- BkS: slices.SortFunc(es, event.Compare) at events whose numbers are apart: the same row holds them in their order. -/
section
namespace Go.Proofs.YtackpcohmmlkeaaGreatDoor
open Go.Shelf Go.RowKit Go.Lib Go.Sort
set_option linter.unusedVariables false
set_option linter.unusedSimpArgs false

theorem lt_leE (x y : Evt) : ltOf cfE x y = !leE y x := by simp [leE, Stb.leOf]
theorem lt_iff (x y : Evt) : ltOf cfE x y = true ↔ ¬ (y.day < x.day ∨ (y.day = x.day ∧ (y.kind < x.kind ∨ (y.kind = x.kind ∧ y.id ≤ x.id)))) := by
  rw [lt_leE, ← leE_iff]; simp
theorem lt_niff (x y : Evt) : ltOf cfE x y = false ↔ (y.day < x.day ∨ (y.day = x.day ∧ (y.kind < x.kind ∨ (y.kind = x.kind ∧ y.id ≤ x.id)))) := by
  rw [lt_leE, ← leE_iff]; simp
theorem swoE : SWO (ltOf cfE) where
  irrefl x := by rw [lt_niff]; omega
  trans x y z h1 h2 := by rw [lt_iff] at *; omega
  ntrans x y z h1 h2 := by rw [lt_niff] at *; omega
/-- The one order. -/
theorem sorted_isort {es : List Evt} {d' : Array Evt} (hu : Uniq es) (hp : PermIn 0 es.toArray.size es.toArray d') (hs : SortedIn (ltOf cfE) 0 es.toArray.size d') : d' = (Stb.isort leE es).toArray := by
  obtain ⟨hsz, -, hperm⟩ := hp
  have e1 : d'.extract 0 es.toArray.size = d' := by rw [← hsz]; exact Array.extract_size
  rw [e1, Array.extract_size] at hperm
  apply Array.ext'
  simp only at hperm ⊢
  refine List.Perm.eq_of_pairwise (le := fun x y => leE x y = true) ?_ ?_ (Stb.isort_sorted leE_total leE_trans es) (hperm.trans (isort_perm es).symm)
  · intro a b ha hb h1 h2
    exact hu.eq (hperm.mem_iff.1 ha) ((isort_perm es).mem_iff.1 hb) (leE_anti h1 h2)
  · rw [List.pairwise_iff_getElem]
    intro i j hi hj hij
    have := hs i j (Nat.zero_le _) hij (by rw [← hsz]; simpa using hj)
    rw [lt_leE] at this
    simp only [Bool.not_eq_false'] at this
    have hi' : i < d'.size := by simpa using hi
    have hj' : j < d'.size := by simpa using hj
    rw [getElem!_pos d' i hi', getElem!_pos d' j hj'] at this
    simpa using this
theorem own_sorted {w W : World} {base g cap : Nat} {cur : Array Value} {es ts : List Evt} (hb : base ≤ g) (hc : w.heap[g]? = some (.cells cur 49 (0, 0))) (hn : es.length ≤ cap) (hm : cap ≤ maxLen) (hs : cur.size = cap * 7) (hS : SWK Evt.cells 7 w g 0 ts.toArray W) (hl : ts.length = es.length) :
    W.ownsRow base 49 7 (.slice (some ⟨g, 0, none⟩) es.length cap) es.length (flE ts) := by
  obtain ⟨m, os, rfl⟩ := hS
  have hgl : g < w.heap.size := (Array.getElem?_eq_some_iff.1 hc).1
  refine ⟨by rw [flE_len, hl], .inr ⟨g, cap, putCells id 0 (flatK Evt.cells 7 ts.toArray) cur, rfl, hb, ?_, hn, hm, by simp [putCells, hs], ?_⟩⟩
  · show (((Sort.ahead w m).heap.modify g _) ++ os)[g]? = _
    rw [Array.getElem?_append, if_pos (by simp only [Array.size_modify]; exact hgl), Array.getElem?_modify, if_pos rfl]
    show Option.map _ w.heap[g]? = _
    rw [hc]
    rfl
  · refine List.ext_getElem? fun j => ?_
    by_cases hj : j < es.length * 7
    · have hjc : j < cur.size := by rw [hs]; exact Nat.lt_of_lt_of_le hj (Nat.mul_le_mul_right _ hn)
      have hj2 : j < ts.toArray.size * 7 := by simpa [hl] using hj
      have hi : j / 7 < ts.length := by omega
      rw [List.getElem?_take_of_lt hj, Array.getElem?_toList, flE_get, List.getElem?_eq_getElem hi]
      have hm7 : j % 7 < ts[j / 7].cells.length := by rw [cells_len]; omega
      simp only [Option.bind_some]
      rw [List.getElem?_eq_getElem hm7]
      simp only [putCells, Array.getElem?_mapIdx, Nat.zero_le, true_and, Nat.zero_add, size_flatK, hj2, if_true, Nat.sub_zero, id]
      rw [get_flatK _ _ _ _ hj2, Array.getElem?_eq_getElem hjc]
      simp [hi, hm7]
    · rw [List.getElem?_eq_none (by simp; omega), List.getElem?_eq_none (by rw [flE_len, hl]; omega)]
theorem insE_none (fv : Value) (w : World) : Calls Tryz.prog 117 #[.slice none 0 0, .int .i64 0, .int .i64 0, fv] w fun e w' => e = .returned (.tuple #[]) ∧ w' = w := by
  go_enter Tryz.func117, Tryz.ntmps117
  go_wp2
  refine wp_loop_rounds 1 ?_
  rw [rounds_succ]
  go_wp2
  go_end0
  exact ⟨rfl, rfl⟩
set_option maxHeartbeats 1000000 in
theorem pdqE_none (lim : Int) (fv : Value) (w : World) : Calls Tryz.prog 79 #[.slice none 0 0, .int .i64 0, .int .i64 0, .int .i64 lim, fv] w fun e w' => e = .returned (.tuple #[]) ∧ w' = w := by
  have H := Lib.hid (fun w => insE_none fv w)
  go_enter Tryz.func79, Tryz.ntmps79
  go_wp2
  refine wp_loop_rounds 1 ?_
  rw [rounds_succ]
  go_wp2_with (go_at_call 117; refine (H.out _).mono ?_; rintro e w' ⟨rfl, rfl⟩)
  (try simp only [Exit.inBlock, Exit.then]); refine bodyPost_ret (results_none rfl _ _ _) rfl ?_
  exact ⟨rfl, rfl⟩
set_option maxHeartbeats 1000000 in
theorem sortE_none (g : Nat) (w : World) : Calls Tryz.prog 51 #[.slice none 0 0, .func (.func g) #[] #[]] w fun e w' => e = .returned (.tuple #[]) ∧ w' = w := by
  have H := Lib.hid (fun lim w => pdqE_none lim (.func (.func g) #[] #[]) w)
  have hl : ∀ W, Calls Tryz.prog 80 #[.int .u64 0] W fun e w' => e = .returned (.int .i64 (Lib.bitLen 0 : Nat)) ∧ w' = W := fun W => by
    have L := Tryz.sortL
    have h := Any.bits_Len (SlLaysF0.n15.bits (P := Tryz.prog) (ρ := Tryz.sortL_ren) { L with }) 0 W (by omega) (by omega)
    exact h
  go_enter Tryz.func51, Tryz.ntmps51
  go_wp2_with (first | (go_at_call 80; refine (hl _).mono ?_; rintro e w' ⟨rfl, rfl⟩) | (go_at_call 79; refine (H.out _ _).mono ?_; rintro e w' ⟨rfl, rfl⟩))
  go_end0
  exact ⟨rfl, rfl⟩
set_option maxHeartbeats 1000000 in
theorem sortE_any (base : Nat) (v : Value) (es : List Evt) (w : World) (hlen : es.length ≤ 1000000000) (hu : Uniq es) (ho : w.ownsRow base 49 7 v es.length (flE es)) (hbase : base ≤ w.heap.size) :
    Calls Tryz.prog 51 #[v, .func (.func 52) #[] #[]] w fun e w' => e = .returned (.tuple #[]) ∧ Below base w w' ∧ w'.ownsRow base 49 7 v es.length (flE (Stb.isort leE es)) := by
  rcases ho.2 with ⟨rfl, hn⟩ | ⟨g, cap, cur, rfl, hg1, hg, hn, hcap, hsz, ht⟩
  · have he : es = [] := List.length_eq_zero_iff.1 hn
    subst he
    refine (sortE_none 52 w).mono ?_
    rintro e w' ⟨rfl, rfl⟩
    exact ⟨rfl, Below.refl _ _, ho⟩
  · have hgl : g < w.heap.size := (Array.getElem?_eq_some_iff.1 hg).1
    have hH := holds_of_own hg ht
    have hsz1 : es.toArray.size = es.length := by simp
    have H0 := AnyQ.slices_SortFunc Tryz.sortL 7 agg_evt size_evt Evt.cells cells_len one_evt cfE swoE 52 #[] g 0 cap es.toArray w (enters_of Tryz.func52 (by kernel_rfl) rfl) (cmp_lays _ _ _ _) hH hgl (by simp; omega)
    rw [hsz1] at H0
    refine H0.mono ?_
    rintro e w' ⟨rfl, d', n, os, hp, hs, hw⟩
    have hd := sorted_isort hu (by rw [hsz1]; exact hp) (by rw [hsz1]; exact hs)
    have hS : SWK Evt.cells 7 w g 0 (Stb.isort leE es).toArray w' := ⟨n, os, by rw [hw, hd]⟩
    exact ⟨rfl, below_sort hg1 hbase hS, own_sorted hg1 hg hn hcap hsz hS (isort_perm es).length_eq⟩
end Go.Proofs.YtackpcohmmlkeaaGreatDoor
end

/- BkA: The book's Turn and As. -/
section
namespace Go.Proofs.YtackpcohmmlkeaaGreatDoor
open Go.Shelf Go.RowKit Go.Lib Go.Sort
set_option linter.unusedVariables false
set_option linter.unusedSimpArgs false

def seenV (T : Int) (l : List Ver) : List Evt := (l.filter (knownAt T)).map Ver.ev
theorem seenV_snoc (T : Int) (l : List Ver) (v : Ver) : seenV T (l ++ [v]) = if knownAt T v then seenV T l ++ [v.ev] else seenV T l := by
  simp only [seenV, List.filter_append, List.filter_cons, List.filter_nil]
  split <;> simp
theorem seenV_len (T : Int) (l : List Ver) : (seenV T l).length ≤ l.length := by
  simp only [seenV, List.length_map]; exact List.length_filter_le _ _
set_option maxHeartbeats 1000000 in
theorem turn_any (B : Nat) (b : Bk) (w : World) (h : BkW w B b) : Calls Tryz.prog 49 #[.pointer (some ⟨B, 0, none⟩)] w fun e w' => e = .returned (.int .i64 b.turn) ∧ w' = w := by
  have c1 := h.c1
  clear h
  go_enter Tryz.func49, Tryz.ntmps49
  go_wp2
  go_ret
  exact ⟨rfl, rfl⟩
set_option maxHeartbeats 4000000 in
set_option maxRecDepth 100000 in
theorem as_low (B : Nat) (b : Bk) (t : Int) (w : World) (h : BkW w B b) (hlen : b.l.length ≤ 1000) (hu : Uniq (seenV (b.turn) b.l)) (h0 : t < 0) :
    Calls Tryz.prog 20 #[.pointer (some ⟨B, 0, none⟩), .int .i64 t] w fun x w' => ∃ v, x = .returned v ∧ w'.ownsRow w.heap.size 49 7 v (seenV (b.turn) b.l).length (flE (Stb.isort leE (seenV (b.turn) b.l))) ∧ Below w.heap.size w w' := by
  have c1 := h.c1
  obtain ⟨v, c0, ho⟩ := h.row
  obtain ⟨xa, xc, rfl⟩ := own_slice ho
  have HR := Lib.hid (rdV_of_own ho)
  obtain ⟨i0, hinf, hiz, his, hib⟩ := info_parts info_evt
  have hBl := h.lt
  have HU := Lib.hid hu
  clear h ho hu
  go_enter Tryz.func20, Tryz.ntmps20
  go_wp2
  go_loopg [5, 27] b.l.length (fun kx v5 i wr => ∃ k : Nat, k ≤ b.l.length ∧ i = .int .i64 k ∧ b.l.length - k ≤ kx ∧ wr.ownsRow w.heap.size 49 7 v5 (seenV (b.turn) (b.l.take k)).length (flE (seenV (b.turn) (b.l.take k))) ∧ Below w.heap.size w wr)
  case atStart => exact ⟨0, by omega, rfl, by omega, World.ownsRow_nil _ _ _ _, Below.refl _ _⟩
  case round =>
    obtain ⟨k, hk, rfl, hkx, ho, hb⟩ := hrel
    obtain ⟨va, vc, rfl⟩ := own_slice ho
    by_cases hlt : k < b.l.length
    · have hltz : (k : Int) < (b.l.length : Int) := by omega
      obtain ⟨g, off, rfl, hbh, h7⟩ := (HR.out.below hb) k hlt
      have c0' := h7 0 _ rfl
      have c1' := h7 1 _ rfl
      have c2' := h7 2 _ rfl
      have c3' := h7 3 _ rfl
      have c4' := h7 4 _ rfl
      have c5' := h7 5 _ rfl
      have c6' := h7 6 _ rfl
      have c7' := h7 7 _ rfl
      have c8' := h7 8 _ rfl
      rw [Nat.add_zero] at c0'
      have HTK : Hid (seenV (b.turn) (b.l.take (k + 1)) = if knownAt (b.turn) b.l[k] then seenV (b.turn) (b.l.take k) ++ [b.l[k].ev] else seenV (b.turn) (b.l.take k)) := by show _ = _; rw [List.take_succ_eq_append_getElem hlt, seenV_snoc]
      have hnl := seenV_len (b.turn) (b.l.take k)
      rw [List.length_take] at hnl
      have hnl : (seenV (b.turn) (b.l.take k)).length ≤ 1000 := by omega
      generalize seenV (b.turn) (b.l.take k) = out at ho HTK hnl ⊢
      clear h7
      generalize b.l[k] = x at c0' c1' c2' c3' c4' c5' c6' c7' c8' HTK
      obtain ⟨⟨i, s, kd, q, p, o, d⟩, f, t'⟩ := x
      simp only at c0' c1' c2' c3' c4' c5' c6' c7' c8'
      have HO := Lib.hid ho
      have HBR := Lib.hid hb
      clear ho hb
      by_cases h1 : f ≤ b.turn
      · by_cases h2 : t' = 0
        · subst h2
          have HKN : Hid (knownAt (b.turn) ⟨⟨i, s, kd, q, p, o, d⟩, f, 0⟩ = true) := by show _ = _; simp [knownAt, h1]
          obtain ⟨m, hm⟩ : ∃ m, m = out.length := ⟨_, rfl⟩
          have HM := Lib.hid hm
          rw [← hm] at HO ⊢ hnl
          clear hm
          have hbs := HBR.out.size
          have ho := HO.out
          go_wp2_with (at_builtin; refine wpList_append_own _ rfl (.tmp 46) (.tmp 49) 22 rfl w.heap.size 49 i0 (.agg #[.int .i64 0, .string ⟨#[]⟩, .int .i64 0, .int .i64 0, .int .i64 0, .int .i64 0, .int .i64 0]) 7 64 Tryz.underlying22 hinf hiz his hib rfl (by decide) _ m (flE out) rfl ((ho.alloc _).alloc _) ⟨wr.heap.size + 1, 0, none⟩ 1 1 (Evt.cells ⟨i, s, kd, q, p, o, d⟩) rfl rfl ?cells (one_evt _) (by unfold maxLen; omega) (by omega) (by simp; omega) ?app)
          case cells => exact fun j u hj => hj
          case app =>
            intro v' w6 ho6 hg6 _
            obtain ⟨xa, xc, rfl⟩ := own_slice ho6
            have hb6 : Below w.heap.size w w6 := ((HBR.out.new _).new _).owngrown ((ho.alloc _).alloc _) hg6
            have HO6 := Lib.hid ho6
            clear ho6 hg6 ho
            go_wp2
            go_roundg (b.l.length - (k + 1))
            case measure => omega
            case rel =>
              refine ⟨k + 1, hlt, by first | rfl | go_num | (congr 1; omega), Nat.le_refl _, ?_, hb6⟩
              rw [HTK.out, if_pos HKN.out, flE_snoc, List.length_append]
              have := HO6.out
              rw [HM.out] at this ⊢
              exact this
        · have h2b : (t' == 0) = false := by simp [h2]
          clear h2
          by_cases h3 : t' > b.turn
          · have HKN : Hid (knownAt (b.turn) ⟨⟨i, s, kd, q, p, o, d⟩, f, t'⟩ = true) := by show _ = _; simp [knownAt, h1]; omega
            obtain ⟨m, hm⟩ : ∃ m, m = out.length := ⟨_, rfl⟩
            have HM := Lib.hid hm
            rw [← hm] at HO ⊢ hnl
            clear hm
            have hbs := HBR.out.size
            have ho := HO.out
            go_wp2_with (at_builtin; refine wpList_append_own _ rfl (.tmp 46) (.tmp 49) 22 rfl w.heap.size 49 i0 (.agg #[.int .i64 0, .string ⟨#[]⟩, .int .i64 0, .int .i64 0, .int .i64 0, .int .i64 0, .int .i64 0]) 7 64 Tryz.underlying22 hinf hiz his hib rfl (by decide) _ m (flE out) rfl ((ho.alloc _).alloc _) ⟨wr.heap.size + 1, 0, none⟩ 1 1 (Evt.cells ⟨i, s, kd, q, p, o, d⟩) rfl rfl ?cells (one_evt _) (by unfold maxLen; omega) (by omega) (by simp; omega) ?app)
            case cells => exact fun j u hj => hj
            case app =>
              intro v' w6 ho6 hg6 _
              obtain ⟨xa, xc, rfl⟩ := own_slice ho6
              have hb6 : Below w.heap.size w w6 := ((HBR.out.new _).new _).owngrown ((ho.alloc _).alloc _) hg6
              have HO6 := Lib.hid ho6
              clear ho6 hg6 ho
              go_wp2
              go_roundg (b.l.length - (k + 1))
              case measure => omega
              case rel =>
                refine ⟨k + 1, hlt, by first | rfl | go_num | (congr 1; omega), Nat.le_refl _, ?_, hb6⟩
                rw [HTK.out, if_pos HKN.out, flE_snoc, List.length_append]
                have := HO6.out
                rw [HM.out] at this ⊢
                exact this
          · have HKN : Hid (knownAt (b.turn) ⟨⟨i, s, kd, q, p, o, d⟩, f, t'⟩ = false) := by show _ = _; simp only [knownAt, h2b, Bool.false_or]; simp; omega
            go_wp2_with fail
            go_roundg (b.l.length - (k + 1))
            case measure => omega
            case rel =>
              refine ⟨k + 1, hlt, by first | rfl | go_num | (congr 1; omega), Nat.le_refl _, ?_, HBR.out.new _⟩
              rw [HTK.out, if_neg (by rw [HKN.out]; simp)]
              exact own_below HO.out ((Below.refl _ wr).new _)
      · have HKN : Hid (knownAt (b.turn) ⟨⟨i, s, kd, q, p, o, d⟩, f, t'⟩ = false) := by show _ = _; simp [knownAt, h1]
        go_wp2_with fail
        go_roundg (b.l.length - (k + 1))
        case measure => omega
        case rel =>
          refine ⟨k + 1, hlt, by first | rfl | go_num | (congr 1; omega), Nat.le_refl _, ?_, HBR.out.new _⟩
          rw [HTK.out, if_neg (by rw [HKN.out]; simp)]
          exact own_below HO.out ((Below.refl _ wr).new _)
    · have hltz : ¬ (k : Int) < (b.l.length : Int) := by omega
      have hke : k = b.l.length := by omega
      subst hke
      rw [List.take_length] at ho
      have hsl := seenV_len (b.turn) b.l
      have HS := Lib.hid (sortE_any w.heap.size _ _ wr (by omega) HU.out ho hb.size)
      have HB := Lib.hid hb
      clear ho hb
      go_wp2_with (go_at_call 51; refine HS.out.mono ?_; rintro e w5 ⟨rfl, hb5, ho5⟩)
      go_ret
      exact ⟨_, rfl, ho5, HB.out.trans hb5⟩
set_option maxHeartbeats 4000000 in
set_option maxRecDepth 100000 in
theorem as_high (B : Nat) (b : Bk) (t : Int) (w : World) (h : BkW w B b) (hlen : b.l.length ≤ 1000) (hu : Uniq (seenV (b.turn) b.l)) (h0 : ¬ t < 0) (h0b : t > b.turn) :
    Calls Tryz.prog 20 #[.pointer (some ⟨B, 0, none⟩), .int .i64 t] w fun x w' => ∃ v, x = .returned v ∧ w'.ownsRow w.heap.size 49 7 v (seenV (b.turn) b.l).length (flE (Stb.isort leE (seenV (b.turn) b.l))) ∧ Below w.heap.size w w' := by
  have c1 := h.c1
  obtain ⟨v, c0, ho⟩ := h.row
  obtain ⟨xa, xc, rfl⟩ := own_slice ho
  have HR := Lib.hid (rdV_of_own ho)
  obtain ⟨i0, hinf, hiz, his, hib⟩ := info_parts info_evt
  have hBl := h.lt
  have HU := Lib.hid hu
  clear h ho hu
  go_enter Tryz.func20, Tryz.ntmps20
  go_wp2
  go_loopg [5, 27] b.l.length (fun kx v5 i wr => ∃ k : Nat, k ≤ b.l.length ∧ i = .int .i64 k ∧ b.l.length - k ≤ kx ∧ wr.ownsRow w.heap.size 49 7 v5 (seenV (b.turn) (b.l.take k)).length (flE (seenV (b.turn) (b.l.take k))) ∧ Below w.heap.size w wr)
  case atStart => exact ⟨0, by omega, rfl, by omega, World.ownsRow_nil _ _ _ _, Below.refl _ _⟩
  case round =>
    obtain ⟨k, hk, rfl, hkx, ho, hb⟩ := hrel
    obtain ⟨va, vc, rfl⟩ := own_slice ho
    by_cases hlt : k < b.l.length
    · have hltz : (k : Int) < (b.l.length : Int) := by omega
      obtain ⟨g, off, rfl, hbh, h7⟩ := (HR.out.below hb) k hlt
      have c0' := h7 0 _ rfl
      have c1' := h7 1 _ rfl
      have c2' := h7 2 _ rfl
      have c3' := h7 3 _ rfl
      have c4' := h7 4 _ rfl
      have c5' := h7 5 _ rfl
      have c6' := h7 6 _ rfl
      have c7' := h7 7 _ rfl
      have c8' := h7 8 _ rfl
      rw [Nat.add_zero] at c0'
      have HTK : Hid (seenV (b.turn) (b.l.take (k + 1)) = if knownAt (b.turn) b.l[k] then seenV (b.turn) (b.l.take k) ++ [b.l[k].ev] else seenV (b.turn) (b.l.take k)) := by show _ = _; rw [List.take_succ_eq_append_getElem hlt, seenV_snoc]
      have hnl := seenV_len (b.turn) (b.l.take k)
      rw [List.length_take] at hnl
      have hnl : (seenV (b.turn) (b.l.take k)).length ≤ 1000 := by omega
      generalize seenV (b.turn) (b.l.take k) = out at ho HTK hnl ⊢
      clear h7
      generalize b.l[k] = x at c0' c1' c2' c3' c4' c5' c6' c7' c8' HTK
      obtain ⟨⟨i, s, kd, q, p, o, d⟩, f, t'⟩ := x
      simp only at c0' c1' c2' c3' c4' c5' c6' c7' c8'
      have HO := Lib.hid ho
      have HBR := Lib.hid hb
      clear ho hb
      by_cases h1 : f ≤ b.turn
      · by_cases h2 : t' = 0
        · subst h2
          have HKN : Hid (knownAt (b.turn) ⟨⟨i, s, kd, q, p, o, d⟩, f, 0⟩ = true) := by show _ = _; simp [knownAt, h1]
          obtain ⟨m, hm⟩ : ∃ m, m = out.length := ⟨_, rfl⟩
          have HM := Lib.hid hm
          rw [← hm] at HO ⊢ hnl
          clear hm
          have hbs := HBR.out.size
          have ho := HO.out
          go_wp2_with (at_builtin; refine wpList_append_own _ rfl (.tmp 46) (.tmp 49) 22 rfl w.heap.size 49 i0 (.agg #[.int .i64 0, .string ⟨#[]⟩, .int .i64 0, .int .i64 0, .int .i64 0, .int .i64 0, .int .i64 0]) 7 64 Tryz.underlying22 hinf hiz his hib rfl (by decide) _ m (flE out) rfl ((ho.alloc _).alloc _) ⟨wr.heap.size + 1, 0, none⟩ 1 1 (Evt.cells ⟨i, s, kd, q, p, o, d⟩) rfl rfl ?cells (one_evt _) (by unfold maxLen; omega) (by omega) (by simp; omega) ?app)
          case cells => exact fun j u hj => hj
          case app =>
            intro v' w6 ho6 hg6 _
            obtain ⟨xa, xc, rfl⟩ := own_slice ho6
            have hb6 : Below w.heap.size w w6 := ((HBR.out.new _).new _).owngrown ((ho.alloc _).alloc _) hg6
            have HO6 := Lib.hid ho6
            clear ho6 hg6 ho
            go_wp2
            go_roundg (b.l.length - (k + 1))
            case measure => omega
            case rel =>
              refine ⟨k + 1, hlt, by first | rfl | go_num | (congr 1; omega), Nat.le_refl _, ?_, hb6⟩
              rw [HTK.out, if_pos HKN.out, flE_snoc, List.length_append]
              have := HO6.out
              rw [HM.out] at this ⊢
              exact this
        · have h2b : (t' == 0) = false := by simp [h2]
          clear h2
          by_cases h3 : t' > b.turn
          · have HKN : Hid (knownAt (b.turn) ⟨⟨i, s, kd, q, p, o, d⟩, f, t'⟩ = true) := by show _ = _; simp [knownAt, h1]; omega
            obtain ⟨m, hm⟩ : ∃ m, m = out.length := ⟨_, rfl⟩
            have HM := Lib.hid hm
            rw [← hm] at HO ⊢ hnl
            clear hm
            have hbs := HBR.out.size
            have ho := HO.out
            go_wp2_with (at_builtin; refine wpList_append_own _ rfl (.tmp 46) (.tmp 49) 22 rfl w.heap.size 49 i0 (.agg #[.int .i64 0, .string ⟨#[]⟩, .int .i64 0, .int .i64 0, .int .i64 0, .int .i64 0, .int .i64 0]) 7 64 Tryz.underlying22 hinf hiz his hib rfl (by decide) _ m (flE out) rfl ((ho.alloc _).alloc _) ⟨wr.heap.size + 1, 0, none⟩ 1 1 (Evt.cells ⟨i, s, kd, q, p, o, d⟩) rfl rfl ?cells (one_evt _) (by unfold maxLen; omega) (by omega) (by simp; omega) ?app)
            case cells => exact fun j u hj => hj
            case app =>
              intro v' w6 ho6 hg6 _
              obtain ⟨xa, xc, rfl⟩ := own_slice ho6
              have hb6 : Below w.heap.size w w6 := ((HBR.out.new _).new _).owngrown ((ho.alloc _).alloc _) hg6
              have HO6 := Lib.hid ho6
              clear ho6 hg6 ho
              go_wp2
              go_roundg (b.l.length - (k + 1))
              case measure => omega
              case rel =>
                refine ⟨k + 1, hlt, by first | rfl | go_num | (congr 1; omega), Nat.le_refl _, ?_, hb6⟩
                rw [HTK.out, if_pos HKN.out, flE_snoc, List.length_append]
                have := HO6.out
                rw [HM.out] at this ⊢
                exact this
          · have HKN : Hid (knownAt (b.turn) ⟨⟨i, s, kd, q, p, o, d⟩, f, t'⟩ = false) := by show _ = _; simp only [knownAt, h2b, Bool.false_or]; simp; omega
            go_wp2_with fail
            go_roundg (b.l.length - (k + 1))
            case measure => omega
            case rel =>
              refine ⟨k + 1, hlt, by first | rfl | go_num | (congr 1; omega), Nat.le_refl _, ?_, HBR.out.new _⟩
              rw [HTK.out, if_neg (by rw [HKN.out]; simp)]
              exact own_below HO.out ((Below.refl _ wr).new _)
      · have HKN : Hid (knownAt (b.turn) ⟨⟨i, s, kd, q, p, o, d⟩, f, t'⟩ = false) := by show _ = _; simp [knownAt, h1]
        go_wp2_with fail
        go_roundg (b.l.length - (k + 1))
        case measure => omega
        case rel =>
          refine ⟨k + 1, hlt, by first | rfl | go_num | (congr 1; omega), Nat.le_refl _, ?_, HBR.out.new _⟩
          rw [HTK.out, if_neg (by rw [HKN.out]; simp)]
          exact own_below HO.out ((Below.refl _ wr).new _)
    · have hltz : ¬ (k : Int) < (b.l.length : Int) := by omega
      have hke : k = b.l.length := by omega
      subst hke
      rw [List.take_length] at ho
      have hsl := seenV_len (b.turn) b.l
      have HS := Lib.hid (sortE_any w.heap.size _ _ wr (by omega) HU.out ho hb.size)
      have HB := Lib.hid hb
      clear ho hb
      go_wp2_with (go_at_call 51; refine HS.out.mono ?_; rintro e w5 ⟨rfl, hb5, ho5⟩)
      go_ret
      exact ⟨_, rfl, ho5, HB.out.trans hb5⟩
set_option maxHeartbeats 4000000 in
set_option maxRecDepth 100000 in
theorem as_in (B : Nat) (b : Bk) (t : Int) (w : World) (h : BkW w B b) (hlen : b.l.length ≤ 1000) (hu : Uniq (seenV (t) b.l)) (h0 : ¬ t < 0) (h0b : ¬ t > b.turn) :
    Calls Tryz.prog 20 #[.pointer (some ⟨B, 0, none⟩), .int .i64 t] w fun x w' => ∃ v, x = .returned v ∧ w'.ownsRow w.heap.size 49 7 v (seenV (t) b.l).length (flE (Stb.isort leE (seenV (t) b.l))) ∧ Below w.heap.size w w' := by
  have c1 := h.c1
  obtain ⟨v, c0, ho⟩ := h.row
  obtain ⟨xa, xc, rfl⟩ := own_slice ho
  have HR := Lib.hid (rdV_of_own ho)
  obtain ⟨i0, hinf, hiz, his, hib⟩ := info_parts info_evt
  have hBl := h.lt
  have HU := Lib.hid hu
  clear h ho hu
  go_enter Tryz.func20, Tryz.ntmps20
  go_wp2
  go_loopg [5, 27] b.l.length (fun kx v5 i wr => ∃ k : Nat, k ≤ b.l.length ∧ i = .int .i64 k ∧ b.l.length - k ≤ kx ∧ wr.ownsRow w.heap.size 49 7 v5 (seenV (t) (b.l.take k)).length (flE (seenV (t) (b.l.take k))) ∧ Below w.heap.size w wr)
  case atStart => exact ⟨0, by omega, rfl, by omega, World.ownsRow_nil _ _ _ _, Below.refl _ _⟩
  case round =>
    obtain ⟨k, hk, rfl, hkx, ho, hb⟩ := hrel
    obtain ⟨va, vc, rfl⟩ := own_slice ho
    by_cases hlt : k < b.l.length
    · have hltz : (k : Int) < (b.l.length : Int) := by omega
      obtain ⟨g, off, rfl, hbh, h7⟩ := (HR.out.below hb) k hlt
      have c0' := h7 0 _ rfl
      have c1' := h7 1 _ rfl
      have c2' := h7 2 _ rfl
      have c3' := h7 3 _ rfl
      have c4' := h7 4 _ rfl
      have c5' := h7 5 _ rfl
      have c6' := h7 6 _ rfl
      have c7' := h7 7 _ rfl
      have c8' := h7 8 _ rfl
      rw [Nat.add_zero] at c0'
      have HTK : Hid (seenV (t) (b.l.take (k + 1)) = if knownAt (t) b.l[k] then seenV (t) (b.l.take k) ++ [b.l[k].ev] else seenV (t) (b.l.take k)) := by show _ = _; rw [List.take_succ_eq_append_getElem hlt, seenV_snoc]
      have hnl := seenV_len (t) (b.l.take k)
      rw [List.length_take] at hnl
      have hnl : (seenV (t) (b.l.take k)).length ≤ 1000 := by omega
      generalize seenV (t) (b.l.take k) = out at ho HTK hnl ⊢
      clear h7
      generalize b.l[k] = x at c0' c1' c2' c3' c4' c5' c6' c7' c8' HTK
      obtain ⟨⟨i, s, kd, q, p, o, d⟩, f, t'⟩ := x
      simp only at c0' c1' c2' c3' c4' c5' c6' c7' c8'
      have HO := Lib.hid ho
      have HBR := Lib.hid hb
      clear ho hb
      by_cases h1 : f ≤ t
      · by_cases h2 : t' = 0
        · subst h2
          have HKN : Hid (knownAt (t) ⟨⟨i, s, kd, q, p, o, d⟩, f, 0⟩ = true) := by show _ = _; simp [knownAt, h1]
          obtain ⟨m, hm⟩ : ∃ m, m = out.length := ⟨_, rfl⟩
          have HM := Lib.hid hm
          rw [← hm] at HO ⊢ hnl
          clear hm
          have hbs := HBR.out.size
          have ho := HO.out
          go_wp2_with (at_builtin; refine wpList_append_own _ rfl (.tmp 46) (.tmp 49) 22 rfl w.heap.size 49 i0 (.agg #[.int .i64 0, .string ⟨#[]⟩, .int .i64 0, .int .i64 0, .int .i64 0, .int .i64 0, .int .i64 0]) 7 64 Tryz.underlying22 hinf hiz his hib rfl (by decide) _ m (flE out) rfl ((ho.alloc _).alloc _) ⟨wr.heap.size + 1, 0, none⟩ 1 1 (Evt.cells ⟨i, s, kd, q, p, o, d⟩) rfl rfl ?cells (one_evt _) (by unfold maxLen; omega) (by omega) (by simp; omega) ?app)
          case cells => exact fun j u hj => hj
          case app =>
            intro v' w6 ho6 hg6 _
            obtain ⟨xa, xc, rfl⟩ := own_slice ho6
            have hb6 : Below w.heap.size w w6 := ((HBR.out.new _).new _).owngrown ((ho.alloc _).alloc _) hg6
            have HO6 := Lib.hid ho6
            clear ho6 hg6 ho
            go_wp2
            go_roundg (b.l.length - (k + 1))
            case measure => omega
            case rel =>
              refine ⟨k + 1, hlt, by first | rfl | go_num | (congr 1; omega), Nat.le_refl _, ?_, hb6⟩
              rw [HTK.out, if_pos HKN.out, flE_snoc, List.length_append]
              have := HO6.out
              rw [HM.out] at this ⊢
              exact this
        · have h2b : (t' == 0) = false := by simp [h2]
          clear h2
          by_cases h3 : t' > t
          · have HKN : Hid (knownAt (t) ⟨⟨i, s, kd, q, p, o, d⟩, f, t'⟩ = true) := by show _ = _; simp [knownAt, h1]; omega
            obtain ⟨m, hm⟩ : ∃ m, m = out.length := ⟨_, rfl⟩
            have HM := Lib.hid hm
            rw [← hm] at HO ⊢ hnl
            clear hm
            have hbs := HBR.out.size
            have ho := HO.out
            go_wp2_with (at_builtin; refine wpList_append_own _ rfl (.tmp 46) (.tmp 49) 22 rfl w.heap.size 49 i0 (.agg #[.int .i64 0, .string ⟨#[]⟩, .int .i64 0, .int .i64 0, .int .i64 0, .int .i64 0, .int .i64 0]) 7 64 Tryz.underlying22 hinf hiz his hib rfl (by decide) _ m (flE out) rfl ((ho.alloc _).alloc _) ⟨wr.heap.size + 1, 0, none⟩ 1 1 (Evt.cells ⟨i, s, kd, q, p, o, d⟩) rfl rfl ?cells (one_evt _) (by unfold maxLen; omega) (by omega) (by simp; omega) ?app)
            case cells => exact fun j u hj => hj
            case app =>
              intro v' w6 ho6 hg6 _
              obtain ⟨xa, xc, rfl⟩ := own_slice ho6
              have hb6 : Below w.heap.size w w6 := ((HBR.out.new _).new _).owngrown ((ho.alloc _).alloc _) hg6
              have HO6 := Lib.hid ho6
              clear ho6 hg6 ho
              go_wp2
              go_roundg (b.l.length - (k + 1))
              case measure => omega
              case rel =>
                refine ⟨k + 1, hlt, by first | rfl | go_num | (congr 1; omega), Nat.le_refl _, ?_, hb6⟩
                rw [HTK.out, if_pos HKN.out, flE_snoc, List.length_append]
                have := HO6.out
                rw [HM.out] at this ⊢
                exact this
          · have HKN : Hid (knownAt (t) ⟨⟨i, s, kd, q, p, o, d⟩, f, t'⟩ = false) := by show _ = _; simp only [knownAt, h2b, Bool.false_or]; simp; omega
            go_wp2_with fail
            go_roundg (b.l.length - (k + 1))
            case measure => omega
            case rel =>
              refine ⟨k + 1, hlt, by first | rfl | go_num | (congr 1; omega), Nat.le_refl _, ?_, HBR.out.new _⟩
              rw [HTK.out, if_neg (by rw [HKN.out]; simp)]
              exact own_below HO.out ((Below.refl _ wr).new _)
      · have HKN : Hid (knownAt (t) ⟨⟨i, s, kd, q, p, o, d⟩, f, t'⟩ = false) := by show _ = _; simp [knownAt, h1]
        go_wp2_with fail
        go_roundg (b.l.length - (k + 1))
        case measure => omega
        case rel =>
          refine ⟨k + 1, hlt, by first | rfl | go_num | (congr 1; omega), Nat.le_refl _, ?_, HBR.out.new _⟩
          rw [HTK.out, if_neg (by rw [HKN.out]; simp)]
          exact own_below HO.out ((Below.refl _ wr).new _)
    · have hltz : ¬ (k : Int) < (b.l.length : Int) := by omega
      have hke : k = b.l.length := by omega
      subst hke
      rw [List.take_length] at ho
      have hsl := seenV_len (t) b.l
      have HS := Lib.hid (sortE_any w.heap.size _ _ wr (by omega) HU.out ho hb.size)
      have HB := Lib.hid hb
      clear ho hb
      go_wp2_with (go_at_call 51; refine HS.out.mono ?_; rintro e w5 ⟨rfl, hb5, ho5⟩)
      go_ret
      exact ⟨_, rfl, ho5, HB.out.trans hb5⟩
theorem as_any (B : Nat) (b : Bk) (t : Int) (w : World) (h : BkW w B b) (hI : BkI b) :
    Calls Tryz.prog 20 #[.pointer (some ⟨B, 0, none⟩), .int .i64 t] w fun x w' => ∃ v, x = .returned v ∧ w'.ownsRow w.heap.size 49 7 v (b.as t).length (flE (b.as t)) ∧ Below w.heap.size w w' := by
  have hl : (b.as t).length = (seenV (b.at t) b.l).length := by unfold Bk.as; exact (isort_perm _).length_eq
  have hu := hI.uniq (b.at t)
  have hlen := hI.len
  rw [hl]
  unfold Bk.as Bk.at at *
  by_cases h0 : t < 0
  · rw [if_pos (Or.inl h0)] at hu ⊢
    exact as_low B b t w h (by omega) hu h0
  · by_cases h1 : t > b.turn
    · rw [if_pos (Or.inr h1)] at hu ⊢
      exact as_high B b t w h (by omega) hu h0 h1
    · rw [if_neg (by omega)] at hu ⊢
      exact as_in B b t w h (by omega) hu h0 h1
end Go.Proofs.YtackpcohmmlkeaaGreatDoor
end
