/- report.Diff: what is known otherwise. -/
import Derived.Test.YtpbbbiifeihkaaaGreatDoorRpA
namespace Go.Proofs.YtpbbbiifeihkaaaGreatDoor
open Go.RowKit
open Go.Maps (Keyed)
open Go.Proofs (encStr)
set_option linter.unusedVariables false
set_option linter.unusedSimpArgs false

theorem info_ch : (Tryz.prog.info? 78).map (fun i => (i.zero, i.size, i.bytes)) = some (some (.agg #[.string ⟨#[]⟩, .int .i64 0, .int .i64 0]), 3, 32) := by kernel_rfl
theorem zero_ch (w : World) : (zeroValue 78).run Tryz.prog w = .ok (.agg #[.string ⟨#[]⟩, .int .i64 0, .int .i64 0]) w := by kernel_rfl
theorem key_s (s : List UInt8) (h : s.length ≤ maxLen) : keyOf Tryz.prog 9 (.string ⟨s.toArray⟩) = some (.string s) := by
  have := Go.WideMaps.keyOf_string_mk Tryz.underlying9 (s := ⟨s.toArray⟩) (by show s.toArray.size ≤ maxLen; simpa using h)
  simpa using this
/-- The three cells of the k-th holding. -/
theorem ho_at {w : World} {base n : Nat} {v : Value} {es : List Evt} {ks : List (List UInt8)} (h : w.ownsRow base 74 3 v n (hoCells es ks)) (hn : n = ks.length) (k : Nat) (hk : k < ks.length) :
    ∃ g cap, v = .slice (some ⟨g, 0, none⟩) n cap ∧ base ≤ g ∧ w.cell? ⟨g, k * 3, none⟩ = some (.string ⟨ks[k].toArray⟩) ∧ w.cell? ⟨g, k * 3 + 1, none⟩ = some (.int .i64 (whatQ es ks[k]).1) ∧ w.cell? ⟨g, k * 3 + 2, none⟩ = some (.int .i64 (whatQ es ks[k]).2) := by
  have hg : ∀ (ks : List (List UInt8)) (k : Nat) (hk : k < ks.length) (j : Nat), j < 3 → (hoCells es ks)[k * 3 + j]? = (hoC es ks[k])[j]? := by
    intro ks
    induction ks with
    | nil => intro k hk; simp at hk
    | cons x r ih =>
      intro k hk j hj
      have hx : (hoC es x).length = 3 := rfl
      rw [show hoCells es (x :: r) = hoC es x ++ hoCells es r by simp [hoCells]]
      cases k with
      | zero => rw [List.getElem?_append_left (by omega)]; simp
      | succ k =>
        rw [List.getElem?_append_right (by omega), hx, show (k + 1) * 3 + j - 3 = k * 3 + j by omega, ih k (by simpa using hk) j hj]
        rfl
  rcases h.2 with ⟨rfl, h0⟩ | ⟨g, cap, cur, rfl, hB, hc, -, -, -, ht⟩
  · omega
  · have hcell : ∀ j, j < 3 → ∀ u, (hoC es ks[k])[j]? = some u → w.cell? ⟨g, k * 3 + j, none⟩ = some u := by
      intro j hj u hu
      simp only [World.cell?, hc]
      rw [← hg ks k hk j hj, ← ht, List.getElem?_take_of_lt (by omega), Array.getElem?_toList] at hu
      exact hu
    exact ⟨g, cap, rfl, hB, hcell 0 (by omega) _ rfl, hcell 1 (by omega) _ rfl, hcell 2 (by omega) _ rfl⟩
set_option maxRecDepth 100000 in
theorem fld1 (x : ByteArray) (q v : Int) (w : World) : (Instr.field 78 (.agg #[.string x, .int .i64 q, .int .i64 v]) 1).run Tryz.prog w = .ok (.int .i64 q) w := by kernel_rfl
set_option maxRecDepth 100000 in
theorem fld2 (x : ByteArray) (q v : Int) (w : World) : (Instr.field 78 (.agg #[.string x, .int .i64 q, .int .i64 v]) 2).run Tryz.prog w = .ok (.int .i64 v) w := by kernel_rfl
/-- A map of changes: c at each item. -/
def DW (w : World) (bm : Nat) (c : List UInt8 → Option (Int × Int)) (m : Nat) : Prop :=
  ∃ ks f, MV Tryz.prog 9 (.agg #[.string ⟨#[]⟩, .int .i64 0, .int .i64 0]) w bm ks f ∧ (∀ s, Lit.string s ∈ ks ↔ c s ≠ none) ∧ (∀ s q, c s = some q → f (.string s) = .agg #[.string ⟨s.toArray⟩, .int .i64 q.1, .int .i64 q.2]) ∧ ks.length ≤ m
theorem DW.start (w : World) : DW (w.alloc (.map #[] 0)) w.heap.size (fun _ => none) 0 :=
  ⟨[], _, MV.made _ _ _ _, fun s => by simp, fun s q h => by simp at h, Nat.le_refl _⟩
theorem DW.below {w w' : World} {bm m : Nat} {c : List UInt8 → Option (Int × Int)} (h : DW w bm c m) (hb : Below w.heap.size w w') : DW w' bm c m := by
  obtain ⟨ks, f, h1, h2⟩ := h
  exact ⟨ks, f, h1.below hb, h2⟩
def updO (c : List UInt8 → Option (Int × Int)) (s : List UInt8) (q : Int × Int) : List UInt8 → Option (Int × Int) := fun x => if x = s then some q else c x
theorem dw_set {w' : World} {bm m : Nat} {c : List UInt8 → Option (Int × Int)} {ks : List Lit} {f : Lit → Value} {s : List UInt8} {q : Int × Int} {u : Value}
    (h : MV Tryz.prog 9 (.agg #[.string ⟨#[]⟩, .int .i64 0, .int .i64 0]) w' bm (addK ks (.string s)) (upd f (.string s) u)) (hu : u = .agg #[.string ⟨s.toArray⟩, .int .i64 q.1, .int .i64 q.2])
    (h2 : ∀ s, Lit.string s ∈ ks ↔ c s ≠ none) (h3 : ∀ s q, c s = some q → f (.string s) = .agg #[.string ⟨s.toArray⟩, .int .i64 q.1, .int .i64 q.2]) (h4 : ks.length ≤ m) : DW w' bm (updO c s q) (m + 1) := by
  refine ⟨_, _, h, fun x => ?_, fun x r hx => ?_, Nat.le_trans (addK_len _ _) (by omega)⟩
  · rw [mem_addK, h2]
    unfold updO
    by_cases e : x = s
    · rw [if_pos e, e]; simp
    · rw [if_neg e]
      constructor
      · rintro (h | h)
        · exact h
        · injection h with h; exact absurd h e
      · intro h; exact .inl h
  · unfold updO at hx
    by_cases e : x = s
    · subst e
      rw [if_pos rfl] at hx
      cases hx
      rw [upd_same, hu]
    · rw [if_neg e] at hx
      rw [upd_other _ _ (fun h => by injection h with h; exact e h)]
      exact h3 x r hx
theorem mem_take_succ {T : List (List UInt8)} {k : Nat} (hk : k < T.length) (s : List UInt8) : s ∈ T.take (k + 1) ↔ s ∈ T.take k ∨ s = T[k] := by
  rw [List.take_succ_eq_append_getElem hk, List.mem_append, List.mem_singleton]
def asO (es : List Evt) (T : List (List UInt8)) : List UInt8 → Option (Int × Int) := fun s => if s ∈ T then some (whatQ es s) else none
theorem asO_step (es : List Evt) (T : List (List UInt8)) (k : Nat) (hk : k < T.length) : updO (asO es (T.take k)) T[k] (whatQ es T[k]) = asO es (T.take (k + 1)) := by
  funext s
  unfold updO asO
  by_cases e : s = T[k]
  · rw [if_pos e, if_pos ((mem_take_succ hk s).2 (.inr e)), e]
  · rw [if_neg e]
    by_cases h : s ∈ T.take k
    · rw [if_pos h, if_pos ((mem_take_succ hk s).2 (.inl h))]
    · rw [if_neg h, if_neg (fun h2 => ((mem_take_succ hk s).1 h2).elim h e)]
def subQ (a b : Int × Int) : Int × Int := (a.1 - b.1, a.2 - b.2)
def byO (eT eF : List Evt) (T F : List (List UInt8)) : List UInt8 → Option (Int × Int) := fun s => if s ∈ F then some (subQ (whatQ eT s) (whatQ eF s)) else asO eT T s
theorem byO_step (eT eF : List Evt) (T F : List (List UInt8)) (k : Nat) (hk : k < F.length) : updO (byO eT eF T (F.take k)) F[k] (subQ (whatQ eT F[k]) (whatQ eF F[k])) = byO eT eF T (F.take (k + 1)) := by
  funext s
  unfold updO byO
  by_cases e : s = F[k]
  · rw [if_pos e, if_pos ((mem_take_succ hk s).2 (.inr e)), e]
  · rw [if_neg e]
    by_cases h : s ∈ F.take k
    · rw [if_pos h, if_pos ((mem_take_succ hk s).2 (.inl h))]
    · rw [if_neg h, if_neg (fun h2 => ((mem_take_succ hk s).1 h2).elim h e)]
theorem what_out {es : List Evt} {T : List (List UInt8)} (h : HoldP es T) {s : List UInt8} (hs : s ∉ T) : whatQ es s = (0, 0) := by
  have : (endS es).lay s = [] := Classical.byContradiction fun hn => hs ((h.mem s).2 hn)
  unfold whatQ lsQ
  rw [this]
  rfl
theorem HoldP.short {es : List Evt} {T : List (List UInt8)} (h : HoldP es T) (hr : ∀ e ∈ es, e.right = true) {s : List UInt8} (hs : s ∈ T) : s.length ≤ maxLen := by
  obtain ⟨e, he, rfl⟩ := List.mem_map.1 (end_mem ((h.mem s).1 hs))
  have h1 := (right_bd (hr e he)).1
  have h2 : e.key.length = e.item.size := by simp [Evt.key]
  unfold maxLen
  omega
theorem MV.srt_mem {z : Value} {w : World} {b : Nat} {ks : List Lit} {f : Lit → Value} (h : MV Tryz.prog 9 z w b ks f) : (∀ s, s ∈ srt ks ↔ Lit.string s ∈ ks) ∧ (srt ks).Nodup ∧ ∀ s ∈ srt ks, s.length ≤ maxLen := by
  obtain ⟨D, -, -, -, hstr⟩ := h.strs (Maps.string_keyed Tryz.underlying9) Tryz.underlying9
  have hmem : ∀ s, s ∈ srt ks ↔ Lit.string s ∈ ks := by
    intro s
    rw [(srt_perm ks).mem_iff, List.mem_map]
    constructor
    · rintro ⟨x, hx, rfl⟩
      obtain ⟨t, rfl, -⟩ := hstr x hx
      exact hx
    · intro hx; exact ⟨_, hx, rfl⟩
  refine ⟨hmem, ?_, fun s hs => ?_⟩
  · refine List.Nodup.perm ?_ (srt_perm ks).symm
    refine (List.pairwise_map).2 (h.nd.imp_of_mem fun {x y} hx hy hne e => hne ?_)
    obtain ⟨s, rfl, _⟩ := hstr x hx
    obtain ⟨t, rfl, _⟩ := hstr y hy
    exact congrArg Lit.string e
  · obtain ⟨t, e, ht⟩ := hstr _ ((hmem s).1 hs)
    injection e with e
    rw [e]; exact ht
/-- What is known otherwise. -/
def dif (eF eT : List Evt) (s : List UInt8) : Int × Int := subQ (whatQ eT s) (whatQ eF s)
abbrev difN (eF eT : List Evt) (s : List UInt8) : Bool := decide (dif eF eT s ≠ (0, 0))
structure DifP (eF eT : List Evt) (D : List (List UInt8)) : Prop where
  nd : D.Nodup
  mem : ∀ s, s ∈ D ↔ dif eF eT s ≠ (0, 0)
def chC (eF eT : List Evt) (k : List UInt8) : List Value := [.string ⟨k.toArray⟩, .int .i64 (dif eF eT k).1, .int .i64 (dif eF eT k).2]
def chCells (eF eT : List Evt) (D : List (List UInt8)) : List Value := D.flatMap (chC eF eT)
theorem chCells_app (eF eT : List Evt) (A B : List (List UInt8)) : chCells eF eT (A ++ B) = chCells eF eT A ++ chCells eF eT B := by simp [chCells]
theorem one_ch (eF eT : List Evt) (k : List UInt8) : ∀ u ∈ chC eF eT k, u.oneCell' = true := by
  intro u hu
  simp only [chC, List.mem_cons, List.not_mem_nil, or_false] at hu
  rcases hu with rfl | rfl | rfl <;> rfl
theorem byO_all {eT eF : List Evt} {T F : List (List UInt8)} (hT : HoldP eT T) (hF : HoldP eF F) (s : List UInt8) : (byO eT eF T F s ≠ none ↔ s ∈ F ∨ s ∈ T) ∧ ∀ q, byO eT eF T F s = some q → q = dif eF eT s := by
  unfold byO asO dif
  by_cases h : s ∈ F
  · rw [if_pos h]
    exact ⟨by simp [h], fun q e => by cases e; rfl⟩
  · rw [if_neg h]
    by_cases h2 : s ∈ T
    · rw [if_pos h2]
      refine ⟨by simp [h2], fun q e => ?_⟩
      cases e
      rw [what_out hF h]
      simp [subQ]
    · rw [if_neg h2]
      exact ⟨by simp [h, h2], fun q e => by cases e⟩
set_option maxHeartbeats 4000000 in
set_option maxRecDepth 100000 in
theorem diff_any (B : Nat) (b : Bk) (n f t : Int) (w : World) (h : BkW w B b) (hI : BkI b) :
    Calls Tryz.prog 28 #[.pointer (some ⟨B, 0, none⟩), .int .i64 n, .int .i64 f, .int .i64 t] w fun e w' => ∃ v D, e = .returned v ∧ DifP (upTo n (b.as f)) (upTo n (b.as t)) D ∧ w'.ownsRow w.heap.size 78 3 v D.length (chCells (upTo n (b.as f)) (upTo n (b.as t)) D) ∧ Below w.heap.size w w' := by
  have HAT := Lib.hid (fun W (hk : BkW W B b) => at_any B b n t W hk hI)
  have HAF := Lib.hid (fun W (hk : BkW W B b) => at_any B b n f W hk hI)
  have hlT : (upTo n (b.as t)).length ≤ 120 := Nat.le_trans (List.length_filter_le _ _) (as_le hI t)
  have hlF : (upTo n (b.as f)).length ≤ 120 := Nat.le_trans (List.length_filter_le _ _) (as_le hI f)
  have HNT : Hid (∀ e ∈ upTo n (b.as t), e.right = true) := Lib.hid (fun e he => ((as_ok hI t).1 e (List.mem_filter.1 he).1).2.2)
  have HNF : Hid (∀ e ∈ upTo n (b.as f), e.right = true) := Lib.hid (fun e he => ((as_ok hI f).1 e (List.mem_filter.1 he).1).2.2)
  obtain ⟨eT, hT⟩ : ∃ eT, eT = upTo n (b.as t) := ⟨_, rfl⟩
  obtain ⟨eF, hF⟩ : ∃ eF, eF = upTo n (b.as f) := ⟨_, rfl⟩
  rw [← hT] at hlT HNT ⊢
  rw [← hF] at hlF HNF ⊢
  simp only [← hT] at HAT
  simp only [← hF] at HAF
  clear hT hF
  have HK := Lib.hid h
  clear h
  have hmm := @run_makeMap Tryz.prog
  obtain ⟨i0, hinf, hiz, his, hib⟩ := info_parts info_ch
  go_enter Tryz.func28, Tryz.ntmps28
  go_wp2_with fail
  have HK1 := Lib.hid (HK.out.below ((Below.refl _ w).new (.map #[] 0)))
  have HD1 := Lib.hid (DW.start w)
  have HB1 := Lib.hid ((Below.refl w.heap.size w).new (.map #[] 0))
  have hs1 : w.heap.size + 1 = (w.alloc (.map #[] 0)).heap.size := by simp
  refine (HAT.out _ HK1.out).mono ?_
  rintro e w2 ⟨v2, T, rfl, hhT, ho2, hb2⟩
  rw [← hs1] at ho2 hb2
  have HK2 := Lib.hid (HK1.out.below (by rw [← hs1]; exact hb2))
  have HD2 := Lib.hid (HD1.out.below (by rw [← hs1]; exact hb2))
  have HB2 := Lib.hid (HB1.out.trans (hb2.mono (by omega)))
  have HHT := Lib.hid hhT
  have hTl := hhT.len
  have HO2 := Lib.hid ho2
  obtain ⟨a2, c2, rfl⟩ := own_slice ho2
  clear hmm HK1 HD1 HB1 hs1 hhT ho2 hb2 HAT HK
  go_wp2_with fail
  go_loopg [24] T.length (fun kx i wr => ∃ k : Nat, k ≤ T.length ∧ i = .int .i64 k ∧ T.length - k ≤ kx ∧ Hid (DW wr w.heap.size (asO eT (T.take k)) k) ∧ Hid (BkW wr B b) ∧ Hid (wr.ownsRow (w.heap.size + 1) 74 3 (.slice a2 T.length c2) T.length (hoCells eT T)) ∧ Hid (Below w.heap.size w wr))
  case atStart => exact ⟨0, by omega, rfl, by omega, HD2, HK2, HO2, HB2⟩
  case round =>
    obtain ⟨k, hk, rfl, hkx, HD, HK, HO, HBR⟩ := hrel
    have hrw := HBR.out.size
    by_cases hlt : k < T.length
    · have hltz : (k : Int) < (T.length : Int) := by omega
      obtain ⟨g, cap, e, -, x0, x1, x2⟩ := ho_at HO.out rfl k hlt
      injection e with e1 e2 e3
      subst e1
      clear e2 e3
      have HST := Lib.hid (asO_step eT T k hlt)
      have HKY := Lib.hid (key_s T[k] (HHT.out.short HNT.out (List.getElem_mem hlt)))
      generalize hs : T[k] = s at x0 x1 x2 HST HKY
      clear hs
      obtain ⟨ks, ff, hmv, hks, hfg, hkl⟩ := HD.out
      have HKS := Lib.hid hks
      have HFG := Lib.hid hfg
      clear hks hfg
      have hbx := (Below.refl wr.heap.size wr).new (.cells #[.string ⟨s.toArray⟩, .int .i64 (whatQ eT s).1, .int .i64 (whatQ eT s).2] 74)
      have HBX := Lib.hid (HBR.out.step hbx)
      have HKX := Lib.hid (HK.out.below hbx)
      have HOX := Lib.hid (own_below HO.out hbx)
      have HMM := Lib.hid (MV.isMap (MV.below hmv hbx))
      clear hbx
      generalize hq : whatQ eT s = q at x1 x2 HST HBX HKX HOX HMM
      clear hq
      go_wp2_with (at_mapUpdate; refine wpList_update_mv (MV.alloc hmv _) rfl _ _ _ 132 rfl 78 (Go.Maps.string_keyed Tryz.underlying9) Tryz.underlying132 (by unfold maxLen; omega) rfl _ (.string s) rfl _ rfl HKY.out ?_; intro w10 hm10 hg10)
      go_roundg (T.length - (k + 1))
      case measure => omega
      case rel => exact ⟨k + 1, hlt, by first | rfl | go_num | (congr 1; omega), Nat.le_refl _, Lib.hid (by rw [← HST.out]; exact dw_set (q := q) hm10 rfl HKS.out HFG.out hkl), Lib.hid (bkW_map HKX.out HMM.out hg10), Lib.hid (own_gb HOX.out hg10 (by omega)), Lib.hid (below_gb HBX.out hg10 (Nat.le_refl _) HBX.out.size)⟩
    · have hltz : ¬ (k : Int) < (T.length : Int) := by omega
      have hke : k = T.length := by omega
      subst hke
      go_wp2_with fail
      refine (HAF.out _ HK.out).mono ?_
      rintro e w3 ⟨v3, F, rfl, hhF, ho3, hb3⟩
      have HK3 := Lib.hid (HK.out.below hb3)
      have HD3 := Lib.hid (HD.out.below hb3)
      have HB3 := Lib.hid (HBR.out.step hb3)
      have HHF := Lib.hid hhF
      have hFl := hhF.len
      have HO3 := Lib.hid ho3
      obtain ⟨a3, c3, rfl⟩ := own_slice ho3
      have hR3 : w.heap.size < wr.heap.size := by have := HD.out; obtain ⟨_, _, hm, -⟩ := this; exact hm.lt
      obtain ⟨R, hR⟩ : ∃ R, R = wr.heap.size := ⟨_, rfl⟩
      rw [← hR] at HO3 hR3
      clear hhF ho3 hb3 HAF HK HD HBR HO hrw hR
      go_wp2_with fail
      go_loopg [44] F.length (fun kx i wr => ∃ k : Nat, k ≤ F.length ∧ i = .int .i64 k ∧ F.length - k ≤ kx ∧ Hid (DW wr w.heap.size (byO eT eF T (F.take k)) (T.length + k)) ∧ Hid (BkW wr B b) ∧ Hid (wr.ownsRow R 74 3 (.slice a3 F.length c3) F.length (hoCells eF F)) ∧ Hid (Below w.heap.size w wr))
      case atStart => exact ⟨0, by omega, rfl, by omega, Lib.hid (by have h := HD3.out; rw [List.take_length] at h; rw [show byO eT eF T (F.take 0) = asO eT T from by funext s; unfold byO; rw [if_neg (by simp)]]; exact h), HK3, HO3, HB3⟩
      case round =>
        obtain ⟨k, hk, rfl, hkx, HD, HK, HO, HBR⟩ := hrel
        have hrw := HBR.out.size
        by_cases hlt : k < F.length
        · have hltz : (k : Int) < (F.length : Int) := by omega
          obtain ⟨g, cap, e, -, x0, x1, x2⟩ := ho_at HO.out rfl k hlt
          injection e with e1 e2 e3
          subst e1
          clear e2 e3
          have HST := Lib.hid (byO_step eT eF T F k hlt)
          have HKY := Lib.hid (key_s F[k] (HHF.out.short HNF.out (List.getElem_mem hlt)))
          have hnin : F[k] ∉ F.take k := fun h => by
            obtain ⟨j, hj, e⟩ := List.getElem_of_mem h
            rw [List.length_take] at hj
            rw [List.getElem_take] at e
            exact (List.pairwise_iff_getElem.1 HHF.out.nd) j k (by omega) hlt (by omega) e
          obtain ⟨ks, ff, hmv, hks, hfg, hkl⟩ := HD.out
          have hf : ∃ it : ByteArray, ff (.string F[k]) = .agg #[.string it, .int .i64 (whatQ eT F[k]).1, .int .i64 (whatQ eT F[k]).2] := by
            by_cases h : F[k] ∈ T
            · exact ⟨_, hfg F[k] (whatQ eT F[k]) (by unfold byO asO; rw [if_neg hnin, if_pos h])⟩
            · refine ⟨⟨#[]⟩, ?_⟩
              rw [hmv.zero _ (fun h2 => (hks F[k]).1 h2 (by unfold byO asO; rw [if_neg hnin, if_neg h])), what_out HHT.out h]
          have hbT := what_bd eT F[k]
          have hbF := what_bd eF F[k]
          generalize hs : F[k] = s at x0 x1 x2 HST HKY hf hbT hbF
          clear hs hnin
          obtain ⟨it, hf⟩ := hf
          have HKS := Lib.hid hks
          have HFG := Lib.hid hfg
          clear hks hfg
          generalize hqT : whatQ eT s = qT at HST hf hbT
          generalize hqF : whatQ eF s = qF at x1 x2 HST hbF
          obtain ⟨tq, tv⟩ := qT
          obtain ⟨fq, fv⟩ := qF
          simp only at x1 x2 hf hbT hbF
          clear hqT hqF
          have hbx := (Below.refl wr.heap.size wr).new (.cells #[.string ⟨s.toArray⟩, .int .i64 fq, .int .i64 fv] 74)
          have hbx2 := hbx.new (.cells #[.string it, .int .i64 tq, .int .i64 tv] 78)
          have HBX := Lib.hid (HBR.out.step hbx2)
          have HKX := Lib.hid (HK.out.below hbx2)
          have HOX := Lib.hid (own_below HO.out hbx2)
          have HMM := Lib.hid (MV.isMap (MV.below hmv hbx2))
          clear hbx hbx2
          go_wp2_with (first
            | (at_lookup; refine wpList_lookup_mv (MV.alloc hmv _) rfl _ _ 132 rfl 78 (Go.Maps.string_keyed Tryz.underlying9) Tryz.underlying132 (zero_ch _) rfl _ (.string s) rfl HKY.out ?_; rw [hf])
            | (at_mapUpdate; refine wpList_update_mv (MV.alloc (MV.alloc hmv _) _) rfl _ _ _ 132 rfl 78 (Go.Maps.string_keyed Tryz.underlying9) Tryz.underlying132 (by unfold maxLen; omega) rfl _ (.string s) rfl _ rfl HKY.out ?_; intro w10 hm10 hg10))
          go_roundg (F.length - (k + 1))
          case measure => omega
          case rel => exact ⟨k + 1, hlt, by first | rfl | go_num | (congr 1; omega), Nat.le_refl _, Lib.hid (by rw [← HST.out]; exact dw_set (q := subQ (tq, tv) (fq, fv)) hm10 rfl HKS.out HFG.out hkl), Lib.hid (bkW_map HKX.out HMM.out hg10), Lib.hid (own_gb HOX.out hg10 hR3), Lib.hid (below_gb HBX.out hg10 (Nat.le_refl _) HBX.out.size)⟩
        · have hltz : ¬ (k : Int) < (F.length : Int) := by omega
          have hke : k = F.length := by omega
          subst hke
          obtain ⟨ks, ff, hmv, hks, hfg, hkl⟩ := HD.out
          rw [List.take_length] at hks hfg
          obtain ⟨hm1, hm2, hm3⟩ := hmv.srt_mem
          have hsl : (srt ks).length = ks.length := srt_len ks
          have HBA := fun s => byO_all HHT.out HHF.out s
          have HSM : Hid (∀ s, s ∈ srt ks ↔ s ∈ F ∨ s ∈ T) := Lib.hid (fun s => by rw [hm1, hks]; exact (HBA s).1)
          have HSV : Hid (∀ s ∈ srt ks, ff (.string s) = .agg #[.string ⟨s.toArray⟩, .int .i64 (dif eF eT s).1, .int .i64 (dif eF eT s).2]) := Lib.hid (fun s hs => by
            have h1 := (hks s).1 ((hm1 s).1 hs)
            cases hc : byO eT eF T F s with
            | none => exact absurd hc h1
            | some q => rw [hfg s q hc, (HBA s).2 q hc])
          have HSN := Lib.hid hm2
          have HSL := Lib.hid hm3
          have hK5 := fun W (hb : Below wr.heap.size wr W) => MV.below hmv hb
          have HK5 := Lib.hid hK5
          have HS := Lib.hid (sortedKeysC_any w.heap.size wr _ ks ff hmv (by omega))
          clear hks hfg hm1 hm2 hm3 hK5 HBA hmv
          go_wp2_with fail
          refine (mapsKeysC_any _ _).mono ?_
          rintro e w4 ⟨rfl, rfl⟩
          go_wp2_with fail
          refine HS.out.mono ?_
          rintro e w5 ⟨v5, rfl, ho5, hb5⟩
          have hb45 : Below wr.heap.size wr w5 := ((Below.refl _ wr).new (.cells #[.map (some w.heap.size)] 132)).trans (hb5.mono (by omega))
          have HB5 := Lib.hid (HBR.out.step hb45)
          have HM5 := Lib.hid (HK5.out _ hb45)
          obtain ⟨a5, c5, rfl⟩ := own_slice ho5
          have HO5 := Lib.hid ho5
          clear hb5 hb45 HS HK5 ho5
          obtain ⟨ss, hss⟩ : ∃ ss, ss = srt ks := ⟨_, rfl⟩
          rw [← hss] at HO5 HSM HSV HSN HSL hsl ⊢
          clear hss
          have hsl5 : ss.length ≤ 240 := by omega
          go_wp2_with fail
          go_loopg [15, 73] ss.length (fun kx v15 i wr => ∃ (k : Nat) (dk : List (List UInt8)), k ≤ ss.length ∧ i = .int .i64 k ∧ ss.length - k ≤ kx ∧ dk = (ss.take k).filter (difN eF eT) ∧ dk.length ≤ k ∧ wr.ownsRow w5.heap.size 78 3 v15 dk.length (chCells eF eT dk) ∧ Hid (Below w5.heap.size w5 wr))
          case atStart => exact ⟨0, [], by omega, rfl, by omega, rfl, Nat.le_refl _, World.ownsRow_nil _ _ _ _, Lib.hid (Below.refl _ _)⟩
          case round =>
            obtain ⟨k, dk, hk, rfl, hkx, hdk, hdl, ho, HBR⟩ := hrel
            by_cases hlt : k < ss.length
            · have hltz : (k : Int) < (ss.length : Int) := by omega
              obtain ⟨g5, c5', e5, hg5, hcs⟩ := own1_cell HO5.out k (by simpa using hlt) (by simp)
              injection e5 with e1 e2 e3
              subst e1 e3
              have hcw : wr.cell? ⟨g5, k, none⟩ = some (encStr ss[k]) := (HBR.out.cell (p := ⟨g5, k, none⟩) (cell_lt hcs)).trans (by simpa using hcs)
              unfold encStr at hcw
              have hmem := List.getElem_mem hlt
              have hfv := HSV.out _ hmem
              have HKY := Lib.hid (key_s ss[k] (HSL.out _ hmem))
              have hget := MV.get (MV.below HM5.out HBR.out) (Go.Maps.string_keyed Tryz.underlying9) Tryz.underlying132 (zero_ch _) HKY.out
              rw [hfv] at hget
              have htk : (ss.take (k + 1)).filter (difN eF eT) = dk ++ if difN eF eT ss[k] then [ss[k]] else [] := by
                rw [List.take_succ_eq_append_getElem hlt, List.filter_append, ← hdk, List.filter_cons, List.filter_nil]
              generalize hs : ss[k] = s at hcw hget htk
              clear hs hfv hmem hcs HKY
              have HCC : Hid (chC eF eT s = [.string ⟨s.toArray⟩, .int .i64 (dif eF eT s).1, .int .i64 (dif eF eT s).2]) := Lib.hid rfl
              have hdn : difN eF eT s = decide (dif eF eT s ≠ (0, 0)) := rfl
              generalize hd : dif eF eT s = d at hget HCC hdn
              clear hd
              obtain ⟨dq, dv⟩ := d
              simp only at hget HCC
              obtain ⟨m, hm⟩ : ∃ m, m = dk.length := ⟨_, rfl⟩
              have HM := Lib.hid hm
              rw [← hm] at ho hdl
              have HOW := Lib.hid ho
              have hws := HBR.out.size
              have hf1 := fun w => fld1 ⟨s.toArray⟩ dq dv w
              have hf2 := fun w => fld2 ⟨s.toArray⟩ dq dv w
              clear hm hdk ho
              by_cases hq : dq = 0
              · have hqz : (dq != 0) = false := by simp [hq]
                by_cases hv : dv = 0
                · have hvz : (dv != 0) = false := by simp [hv]
                  have HDT : Hid (dk = (ss.take (k + 1)).filter (difN eF eT)) := Lib.hid (by rw [htk, hdn, hq, hv]; simp)
                  clear htk hdn hq hv
                  go_wp2_with fail
                  go_roundg (ss.length - (k + 1))
                  case measure => omega
                  case rel => exact ⟨k + 1, dk, hlt, by first | rfl | go_num | (congr 1; omega), Nat.le_refl _, HDT.out, by rw [← HM.out]; omega, by rw [← HM.out]; exact HOW.out, HBR⟩
                · have hvz : (dv != 0) = true := by simp [hv]
                  have HDT : Hid (dk ++ [s] = (ss.take (k + 1)).filter (difN eF eT)) := Lib.hid (by rw [htk, hdn, if_pos (by simp [hv])])
                  clear htk hdn hq hv
                  go_wp2_with (at_builtin; refine wpList_append_own _ rfl (.tmp 89) (.tmp 93) 76 rfl w5.heap.size 78 i0 (.agg #[.string ⟨#[]⟩, .int .i64 0, .int .i64 0]) 3 32 Tryz.underlying76 hinf hiz his hib rfl (by decide) _ m (chCells eF eT dk) rfl (HOW.out.alloc _) ⟨wr.heap.size, 0, none⟩ 1 1 [.string ⟨s.toArray⟩, .int .i64 dq, .int .i64 dv] rfl rfl (cells_at (World.alloc_heap_new _ _)) (fun u hu => by rw [← HCC.out] at hu; exact one_ch eF eT s u hu) (by unfold maxLen; omega) (by omega) (by simp; omega) ?app)
                  case app =>
                    intro v7 w7 ho7 hg7 _
                    have HB7 := Lib.hid ((HBR.out.new _).owngrown (HOW.out.alloc _) hg7)
                    have HO7 := Lib.hid ho7
                    obtain ⟨xa, xc, rfl⟩ := own_slice ho7
                    clear ho7 hg7
                    go_wp2_with fail
                    go_roundg (ss.length - (k + 1))
                    case measure => omega
                    case rel =>
                      refine ⟨k + 1, dk ++ [s], hlt, by first | rfl | go_num | (congr 1; omega), Nat.le_refl _, HDT.out, by rw [List.length_append, ← HM.out]; simp; omega, ?_, HB7⟩
                      rw [List.length_append, ← HM.out, chCells_app, show chCells eF eT [s] = chC eF eT s by simp [chCells], HCC.out]
                      exact HO7.out
              · have hqz : (dq != 0) = true := by simp [hq]
                have HDT : Hid (dk ++ [s] = (ss.take (k + 1)).filter (difN eF eT)) := Lib.hid (by rw [htk, hdn, if_pos (by simp [hq])])
                clear htk hdn hq
                go_wp2_with (at_builtin; refine wpList_append_own _ rfl (.tmp 89) (.tmp 93) 76 rfl w5.heap.size 78 i0 (.agg #[.string ⟨#[]⟩, .int .i64 0, .int .i64 0]) 3 32 Tryz.underlying76 hinf hiz his hib rfl (by decide) _ m (chCells eF eT dk) rfl (HOW.out.alloc _) ⟨wr.heap.size, 0, none⟩ 1 1 [.string ⟨s.toArray⟩, .int .i64 dq, .int .i64 dv] rfl rfl (cells_at (World.alloc_heap_new _ _)) (fun u hu => by rw [← HCC.out] at hu; exact one_ch eF eT s u hu) (by unfold maxLen; omega) (by omega) (by simp; omega) ?app)
                case app =>
                  intro v7 w7 ho7 hg7 _
                  have HB7 := Lib.hid ((HBR.out.new _).owngrown (HOW.out.alloc _) hg7)
                  have HO7 := Lib.hid ho7
                  obtain ⟨xa, xc, rfl⟩ := own_slice ho7
                  clear ho7 hg7
                  go_wp2_with fail
                  go_roundg (ss.length - (k + 1))
                  case measure => omega
                  case rel =>
                    refine ⟨k + 1, dk ++ [s], hlt, by first | rfl | go_num | (congr 1; omega), Nat.le_refl _, HDT.out, by rw [List.length_append, ← HM.out]; simp; omega, ?_, HB7⟩
                    rw [List.length_append, ← HM.out, chCells_app, show chCells eF eT [s] = chC eF eT s by simp [chCells], HCC.out]
                    exact HO7.out
            · have hltz : ¬ (k : Int) < (ss.length : Int) := by omega
              have hke : k = ss.length := by omega
              subst hke
              have HOW := Lib.hid ho
              have HDK := Lib.hid hdk
              clear ho hdk
              go_wp2_with fail
              go_ret
              refine ⟨_, rfl, dk, ⟨?_, fun s => ?_⟩, own_lo HOW.out HB5.out.size, HB5.out.step HBR.out⟩
              · rw [HDK.out, List.take_length]; exact HSN.out.filter _
              · rw [HDK.out, List.take_length, List.mem_filter, decide_eq_true_eq]
                constructor
                · exact fun h => h.2
                · intro h
                  refine ⟨(HSM.out s).2 (Classical.byContradiction fun hn => h ?_), h⟩
                  have h1 := what_out HHT.out (s := s) (fun h2 => hn (.inr h2))
                  have h2 := what_out HHF.out (s := s) (fun h2 => hn (.inl h2))
                  unfold dif
                  rw [h1, h2]
                  rfl
end Go.Proofs.YtpbbbiifeihkaaaGreatDoor
