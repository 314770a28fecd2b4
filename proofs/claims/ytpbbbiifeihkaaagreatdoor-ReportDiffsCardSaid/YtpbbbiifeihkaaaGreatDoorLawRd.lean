/- Joined: RdW, RdH, RdM, LawRd. -/
import Derived.Test.YtpbbbiifeihkaaaGreatDoorRpR
import Derived.Test.YtpbbbiifeihkaaaGreatDoorRmW
import Derived.Test.YtpbbbiifeihkaaaGreatDoorQTail
import Derived.Laws.EntriesVeiled

/- RdW: ReportDiffs: its maps of how many and of which value; add. -/
section
namespace Go.Proofs.YtpbbbiifeihkaaaGreatDoor
open Go.RowKit
open Go.Maps (Keyed)
set_option linter.unusedVariables false
set_option linter.unusedSimpArgs false

theorem zero_a (w : World) : (zeroValue 69).run Tryz.prog w = .ok (.agg #[.int .i64 0, .int .i64 0]) w := by kernel_rfl
set_option maxRecDepth 100000 in
theorem arr_eql (a b a' b' : Int) (w : World) : (Op.equalIn 10000 69 (.agg #[.int .i64 a, .int .i64 b]) (.agg #[.int .i64 a', .int .i64 b'])).run Tryz.prog w = .ok (a == a' && b == b') w := by
  have u3 := Tryz.underlying3
  have a3 := Tryz.isAgg3
  have z3 := Tryz.sizeOf3
  have uA := Tryz.underlying69
  rw [show (10000 : Nat) = 9999 + 1 from rfl]
  unfold Op.equalIn
  go_simp
  rw [show List.range' 0 2 = [0, 1] from rfl]
  go_simp
  (repeat' split) <;> simp_all
abbrev pV (q : Int × Int) : Value := .agg #[.int .i64 q.1, .int .i64 q.2]
/-- A map of the call's own: c at each item, where there is something. -/
def QW (w : World) (bm : Nat) (c : List UInt8 → Int × Int) (m : Nat) : Prop :=
  ∃ ks f, MV Tryz.prog 9 (.agg #[.int .i64 0, .int .i64 0]) w bm ks f ∧ (∀ s, Lit.string s ∈ ks ↔ c s ≠ (0, 0)) ∧ (∀ s, f (.string s) = pV (c s)) ∧ ks.length ≤ m
theorem QW.start (w : World) : QW (w.alloc (.map #[] 0)) w.heap.size (fun _ => (0, 0)) 0 :=
  ⟨[], _, MV.made _ _ _ _, fun s => by simp, fun s => rfl, Nat.le_refl _⟩
theorem QW.below {w w' : World} {bm m : Nat} {c : List UInt8 → Int × Int} (h : QW w bm c m) (hb : Below w.heap.size w w') : QW w' bm c m := by
  obtain ⟨ks, f, h1, h2⟩ := h
  exact ⟨ks, f, h1.below hb, h2⟩
theorem QW.lt {w : World} {bm m : Nat} {c : List UInt8 → Int × Int} (h : QW w bm c m) : bm < w.heap.size := by
  obtain ⟨ks, f, h1, h2⟩ := h
  exact h1.lt
theorem QW.other {w w' : World} {bm b2 m : Nat} {c : List UInt8 → Int × Int} (h : QW w bm c m) (hg : w.grownBy w' (some b2)) (hne : bm ≠ b2) : QW w' bm c m := by
  obtain ⟨ks, f, h1, h2⟩ := h
  exact ⟨ks, f, h1.kept hg (by intro e; cases e; exact hne rfl), h2⟩
theorem QW.up {w : World} {bm m m' : Nat} {c : List UInt8 → Int × Int} (h : QW w bm c m) (hm : m ≤ m') : QW w bm c m' := by
  obtain ⟨ks, f, h1, h2, h3, h4⟩ := h
  exact ⟨ks, f, h1, h2, h3, Nat.le_trans h4 hm⟩
def updP (c : List UInt8 → Int × Int) (s : List UInt8) (q : Int × Int) : List UInt8 → Int × Int := fun x => if x = s then q else c x
theorem qw_set {w' : World} {bm m : Nat} {c : List UInt8 → Int × Int} {ks : List Lit} {f : Lit → Value} {s : List UInt8} {q : Int × Int} {u : Value}
    (h : MV Tryz.prog 9 (.agg #[.int .i64 0, .int .i64 0]) w' bm (addK ks (.string s)) (upd f (.string s) u)) (hu : u = pV q) (hq : q ≠ (0, 0))
    (h2 : ∀ s, Lit.string s ∈ ks ↔ c s ≠ (0, 0)) (h3 : ∀ s, f (.string s) = pV (c s)) (h4 : ks.length ≤ m) : QW w' bm (updP c s q) (m + 1) := by
  refine ⟨_, _, h, fun x => ?_, fun x => ?_, Nat.le_trans (addK_len _ _) (by omega)⟩
  · rw [mem_addK, h2]
    unfold updP
    by_cases e : x = s
    · rw [if_pos e]; simp [e, hq]
    · rw [if_neg e]
      constructor
      · rintro (h | h)
        · exact h
        · injection h with h; exact absurd h e
      · intro h; exact .inl h
  · unfold updP
    by_cases e : x = s
    · subst e
      rw [if_pos rfl, upd_same, hu]
    · rw [if_neg e, upd_other _ _ (fun h => by injection h with h; exact e h)]
      exact h3 x
theorem qw_del {w' : World} {bm m : Nat} {c : List UInt8 → Int × Int} {ks : List Lit} {f : Lit → Value} {s : List UInt8} {u z : Value} (hnd : ks.Nodup)
    (h : MV Tryz.prog 9 (.agg #[.int .i64 0, .int .i64 0]) w' bm ((addK ks (.string s)).erase (.string s)) (upd (upd f (.string s) u) (.string s) z)) (hz : z = .agg #[.int .i64 0, .int .i64 0])
    (h2 : ∀ s, Lit.string s ∈ ks ↔ c s ≠ (0, 0)) (h3 : ∀ s, f (.string s) = pV (c s)) (h4 : ks.length ≤ m) : QW w' bm (updP c s (0, 0)) (m + 1) := by
  refine ⟨_, _, h, fun x => ?_, fun x => ?_, Nat.le_trans (List.length_erase_le) (Nat.le_trans (addK_len _ _) (by omega))⟩
  · rw [(nodup_addK hnd (.string s)).mem_erase_iff, mem_addK, h2]
    unfold updP
    by_cases e : x = s
    · rw [if_pos e, e]; simp
    · rw [if_neg e]
      constructor
      · rintro ⟨-, h | h⟩
        · exact h
        · injection h with h; exact absurd h e
      · intro h; exact ⟨fun h2 => by injection h2 with h2; exact e h2, .inl h⟩
  · unfold updP
    by_cases e : x = s
    · subst e
      rw [if_pos rfl, upd_same, hz]
    · rw [if_neg e, upd_other _ _ (fun h => by injection h with h; exact e h), upd_other _ _ (fun h => by injection h with h; exact e h)]
      exact h3 x
theorem gbT {a b c : World} {r : Option Nat} (h : a.grownBy b r) (k : b.grownBy c r) : a.grownBy c r :=
  ⟨k.os.trans h.os, k.tape.trans h.tape, k.output.trans h.output, Nat.le_trans h.size k.size, fun j hj hne => (k.block j (Nat.lt_of_lt_of_le hj h.size) hne).trans (h.block j hj hne)⟩
theorem gbB {a b : World} (r : Option Nat) (h : Below a.heap.size a b) : a.grownBy b r := ⟨h.os, h.tape, h.output, h.size, fun j hj _ => h.block j hj⟩
theorem wpList_delete_mv {P : Program} {w : World} {ops : Array Oper} {Q : Exit → Act → World → Prop} {rest : List Oper} {o : Oper} {a : Act} {k : TypeId} {z : Value} {b : Nat} {ks : List Lit} {f : Lit → Value} (h : MV P k z w b ks f) (hg : o.guard = none) (m x : Operand) (t : TypeId) (hop : o.op = Op.call { callee := Callee.builtin Builtin.delete, args := #[m, x], argTypes := #[t, k] }) (e : TypeId) (K : Keyed P k) (ht : P.underlying t = some (.map k e))
    (hm : a.eval m = .map (some b)) (key : Value) (kl : Lit) (hx : a.eval x = key) (hkey : keyOf P k key = some kl)
    (hK : ∀ w', MV P k z w' b (ks.erase kl) (upd f kl z) → w.grownBy w' (some b) → wpList P ops Q rest (a.put o.dst (.tuple #[])) w') : wpList P ops Q (o :: rest) a w := by
  refine wpList_plain hg fun K' hK' => ?_
  obtain ⟨w', hrun, h1, h2⟩ := MV.del (ty := o.type) h K ht hkey
  unfold Oper.wp
  simp [execOp, hop, resolve, invoke, builtin, hm, hx, hrun, Result.andThen]
  exact hK' _ _ (hK w' h1 h2)
set_option maxHeartbeats 2000000 in
set_option maxRecDepth 100000 in
theorem add_any (bm m : Nat) (c : List UInt8 → Int × Int) (s : List UInt8) (q v : Int) (w : World) (h : QW w bm c m) (hs : s.length ≤ maxLen) (hm : m ≤ 1000)
    (hc : -1000000000000000 ≤ (c s).1 ∧ (c s).1 ≤ 1000000000000000 ∧ -1000000000000000 ≤ (c s).2 ∧ (c s).2 ≤ 1000000000000000) (hq : -1000000000000000 ≤ q ∧ q ≤ 1000000000000000 ∧ -1000000000000000 ≤ v ∧ v ≤ 1000000000000000) :
    Calls Tryz.prog 24 #[.map (some bm), .string ⟨s.toArray⟩, .int .i64 q, .int .i64 v] w fun e w' => e = .returned (.tuple #[]) ∧ QW w' bm (updP c s ((c s).1 + q, (c s).2 + v)) (m + 1) ∧ w.grownBy w' (some bm) := by
  obtain ⟨ks, f, hmv, hks, hfg, hkl⟩ := h
  have hf := hfg s
  have HKS := Lib.hid hks
  have HFG := Lib.hid hfg
  have HKY := Lib.hid (key_s s hs)
  have HND := Lib.hid hmv.nd
  have heq := arr_eql
  generalize hcs : c s = cs at hf hc ⊢
  obtain ⟨ca, cb⟩ := cs
  simp only [pV] at hf hc ⊢
  have hbx := (Below.refl w.heap.size w).new (.cells #[.int .i64 ca, .int .i64 cb] 69)
  have HBX := Lib.hid (gbB (some bm) hbx)
  clear hks hfg hcs hbx
  by_cases hz : ca + q = 0 ∧ cb + v = 0
  · have hzz : (ca + q == 0 && cb + v == 0) = true := by simp [hz.1, hz.2]
    have HZ := Lib.hid hz
    clear hz
    go_enter Tryz.func24, Tryz.ntmps24
    go_wp2_with (first
      | (at_lookup; refine wpList_lookup_mv hmv rfl _ _ 68 rfl 69 (Go.Maps.string_keyed Tryz.underlying9) Tryz.underlying68 (zero_a _) rfl _ (.string s) rfl HKY.out ?_; rw [hf])
      | (at_mapUpdate; refine wpList_update_mv (MV.alloc hmv _) rfl _ _ _ 68 rfl 69 (Go.Maps.string_keyed Tryz.underlying9) Tryz.underlying68 (by unfold maxLen; omega) rfl _ (.string s) rfl _ rfl HKY.out ?_; intro w1 hm1 hg1)
      | (at_lookup; refine wpList_lookup_mv hm1 rfl _ _ 68 rfl 69 (Go.Maps.string_keyed Tryz.underlying9) Tryz.underlying68 (zero_a _) rfl _ (.string s) rfl HKY.out ?_; rw [upd_same])
      | (at_delete; refine wpList_delete_mv hm1 rfl _ _ 68 rfl 69 (Go.Maps.string_keyed Tryz.underlying9) Tryz.underlying68 rfl _ (.string s) rfl HKY.out ?_; intro w2 hm2 hg2))
    go_end0
    refine ⟨rfl, ?_, gbT (gbT HBX.out hg1) hg2⟩
    rw [HZ.out.1, HZ.out.2]
    exact qw_del HND.out hm2 rfl HKS.out HFG.out hkl
  · have hzz : (ca + q == 0 && cb + v == 0) = false := by
      apply Classical.byContradiction
      intro h
      rw [Bool.not_eq_false, Bool.and_eq_true, beq_iff_eq, beq_iff_eq] at h
      exact hz h
    have HZ : Hid ((ca + q, cb + v) ≠ (0, 0)) := Lib.hid (fun h => hz (by rw [Prod.mk.injEq] at h; exact h))
    clear hz
    go_enter Tryz.func24, Tryz.ntmps24
    go_wp2_with (first
      | (at_lookup; refine wpList_lookup_mv hmv rfl _ _ 68 rfl 69 (Go.Maps.string_keyed Tryz.underlying9) Tryz.underlying68 (zero_a _) rfl _ (.string s) rfl HKY.out ?_; rw [hf])
      | (at_mapUpdate; refine wpList_update_mv (MV.alloc hmv _) rfl _ _ _ 68 rfl 69 (Go.Maps.string_keyed Tryz.underlying9) Tryz.underlying68 (by unfold maxLen; omega) rfl _ (.string s) rfl _ rfl HKY.out ?_; intro w1 hm1 hg1)
      | (at_lookup; refine wpList_lookup_mv hm1 rfl _ _ 68 rfl 69 (Go.Maps.string_keyed Tryz.underlying9) Tryz.underlying68 (zero_a _) rfl _ (.string s) rfl HKY.out ?_; rw [upd_same]))
    go_end0
    exact ⟨rfl, qw_set hm1 rfl HZ.out HKS.out HFG.out hkl, gbT HBX.out hg1⟩
end Go.Proofs.YtpbbbiifeihkaaaGreatDoor
end

/- RdH: ReportDiffs: hold, more, same. -/
section
namespace Go.Proofs.YtpbbbiifeihkaaaGreatDoor
open Go.RowKit
open Go.Maps (Keyed)
set_option linter.unusedVariables false
set_option linter.unusedSimpArgs false

/-- The cells that the closures hold: the book, the day, add. -/
structure CapW (w : World) (B PB PN PA : Nat) (n : Int) : Prop where
  b : w.cell? ⟨PB, 0, none⟩ = some (.pointer (some ⟨B, 0, none⟩))
  n : w.cell? ⟨PN, 0, none⟩ = some (.int .i64 n)
  a : w.cell? ⟨PA, 0, none⟩ = some (.func (.func 24) #[] #[])
theorem CapW.below {w w' : World} {B PB PN PA : Nat} {n : Int} (h : CapW w B PB PN PA n) (hb : Below w.heap.size w w') : CapW w' B PB PN PA n :=
  ⟨(hb.cell (p := ⟨PB, 0, none⟩) (cell_lt h.b)).trans h.b, (hb.cell (p := ⟨PN, 0, none⟩) (cell_lt h.n)).trans h.n, (hb.cell (p := ⟨PA, 0, none⟩) (cell_lt h.a)).trans h.a⟩
theorem cell_map {w w' : World} {bm X j : Nat} {v : Value} (h : w.cell? ⟨X, j, none⟩ = some v) (hm : ∃ es c, w.heap[bm]? = some (.map es c)) (hg : w.grownBy w' (some bm)) : w'.cell? ⟨X, j, none⟩ = some v := by
  obtain ⟨es, c, hm⟩ := hm
  have hX : X < w.heap.size := cell_lt h
  have hne : some X ≠ some bm := by
    intro e
    cases e
    simp only [World.cell?, hm] at h
    cases h
  simp only [World.cell?] at h ⊢
  rw [hg.block X hX hne]
  exact h
theorem CapW.map {w w' : World} {B PB PN PA bm : Nat} {n : Int} (h : CapW w B PB PN PA n) (hm : ∃ es c, w.heap[bm]? = some (.map es c)) (hg : w.grownBy w' (some bm)) : CapW w' B PB PN PA n :=
  ⟨cell_map h.b hm hg, cell_map h.n hm hg, cell_map h.a hm hg⟩
theorem QW.isMap {w : World} {bm m : Nat} {c : List UInt8 → Int × Int} (h : QW w bm c m) : ∃ es c, w.heap[bm]? = some (.map es c) := by
  obtain ⟨ks, f, h1, -⟩ := h
  exact h1.isMap
/-- The first holdings alone. -/
def part (es : List Evt) (T : List (List UInt8)) : List UInt8 → Int × Int := fun s => if s ∈ T then whatQ es s else (0, 0)
theorem part_step (es : List Evt) (T : List (List UInt8)) (k : Nat) (hk : k < T.length) (hnd : T.Nodup) : (part es (T.take k) T[k] = (0, 0)) ∧ updP (part es (T.take k)) T[k] (whatQ es T[k]) = part es (T.take (k + 1)) := by
  have hnin : T[k] ∉ T.take k := fun h => by
    obtain ⟨j, hj, e⟩ := List.getElem_of_mem h
    rw [List.length_take] at hj
    rw [List.getElem_take] at e
    exact (List.pairwise_iff_getElem.1 hnd) j k (by omega) hk (by omega) e
  refine ⟨by unfold part; rw [if_neg hnin], ?_⟩
  funext s
  unfold updP part
  by_cases e : s = T[k]
  · rw [if_pos e, if_pos ((mem_take_succ hk s).2 (.inr e)), e]
  · rw [if_neg e]
    by_cases h : s ∈ T.take k
    · rw [if_pos h, if_pos ((mem_take_succ hk s).2 (.inl h))]
    · rw [if_neg h, if_neg (fun h2 => ((mem_take_succ hk s).1 h2).elim h e)]
theorem part_all {es : List Evt} {T : List (List UInt8)} (h : HoldP es T) : part es T = whatQ es := by
  funext s
  unfold part
  by_cases hs : s ∈ T
  · rw [if_pos hs]
  · rw [if_neg hs, what_out h hs]
set_option maxHeartbeats 4000000 in
set_option maxRecDepth 100000 in
theorem hold_any (B PB PN PA : Nat) (b : Bk) (n t : Int) (w : World) (hk : BkW w B b) (hI : BkI b) (hc : CapW w B PB PN PA n) :
    Calls Tryz.prog 25 #[.int .i64 t, .pointer (some ⟨PB, 0, none⟩), .pointer (some ⟨PN, 0, none⟩), .pointer (some ⟨PA, 0, none⟩)] w fun e w' => ∃ bm, e = .returned (.map (some bm)) ∧ w.heap.size ≤ bm ∧ QW w' bm (whatQ (upTo n (b.as t))) 120 ∧ Below w.heap.size w w' := by
  have hb1 := (Below.refl w.heap.size w).new (.map #[] 0)
  have HA := Lib.hid (at_any B b n t (w.alloc (.map #[] 0)) (hk.below hb1) hI)
  have hlT : (upTo n (b.as t)).length ≤ 120 := Nat.le_trans (List.length_filter_le _ _) (as_le hI t)
  have HNT : Hid (∀ e ∈ upTo n (b.as t), e.right = true) := Lib.hid (fun e he => ((as_ok hI t).1 e (List.mem_filter.1 he).1).2.2)
  have HC1 := Lib.hid (hc.below hb1)
  have HQ1 := Lib.hid (QW.start w)
  have HB1 := Lib.hid hb1
  have hs1 : w.heap.size + 1 = (w.alloc (.map #[] 0)).heap.size := by simp
  have hmm := @run_makeMap Tryz.prog
  have cb := hc.b
  have cn := hc.n
  have hbl := cell_lt cb
  have hnl := cell_lt cn
  obtain ⟨E, hE⟩ : ∃ E, E = upTo n (b.as t) := ⟨_, rfl⟩
  rw [← hE] at HA hlT HNT ⊢
  clear hE hk hb1 hc
  go_enter Tryz.func25, Tryz.ntmps25
  go_wp2_with fail
  refine HA.out.mono ?_
  rintro e w2 ⟨v2, T, rfl, hh, ho2, hb2⟩
  have HC2 := Lib.hid (HC1.out.below hb2)
  have HQ2 := Lib.hid (HQ1.out.below hb2)
  rw [← hs1] at ho2 hb2
  have HB2 := Lib.hid (HB1.out.trans (hb2.mono (by omega)))
  have HH := Lib.hid hh
  have hTl : T.length ≤ 120 := Nat.le_trans hh.len hlT
  obtain ⟨a2, c2, rfl⟩ := own_slice ho2
  have HO2 := Lib.hid ho2
  clear hmm hh ho2 hb2 HA HC1 HQ1 HB1 hs1 cb cn hbl hnl
  go_wp2_with fail
  go_loopg [8] T.length (fun kx i wr => ∃ k : Nat, k ≤ T.length ∧ i = .int .i64 k ∧ T.length - k ≤ kx ∧ Hid (QW wr w.heap.size (part E (T.take k)) k) ∧ Hid (CapW wr B PB PN PA n) ∧ Hid (wr.ownsRow (w.heap.size + 1) 74 3 (.slice a2 T.length c2) T.length (hoCells E T)) ∧ Hid (Below w.heap.size w wr))
  case atStart => exact ⟨0, by omega, rfl, by omega, Lib.hid (by rw [show part E (T.take 0) = fun _ => (0, 0) from by funext s; unfold part; rw [if_neg (by simp)]]; exact HQ2.out), HC2, HO2, HB2⟩
  case round =>
    obtain ⟨k, hk, rfl, hkx, HQ, HC, HO, HBR⟩ := hrel
    by_cases hlt : k < T.length
    · have hltz : (k : Int) < (T.length : Int) := by omega
      obtain ⟨g, cap, e, -, x0, x1, x2⟩ := ho_at HO.out rfl k hlt
      injection e with e1 e2 e3
      subst e1 e3
      have hst := part_step E T k hlt HH.out.nd
      have hsl := HH.out.short HNT.out (List.getElem_mem hlt)
      have hbd := what_bd E T[k]
      have ca := HC.out.a
      have hal := cell_lt ca
      have hgl : g < wr.heap.size := cell_lt x0
      have HAD := Lib.hid (fun W (hb : Below wr.heap.size wr W) => add_any w.heap.size k (part E (T.take k)) T[k] (whatQ E T[k]).1 (whatQ E T[k]).2 W (HQ.out.below hb) hsl (by omega) (by rw [hst.1]; exact ⟨by decide, by decide, by decide, by decide⟩) ⟨by omega, by omega, by omega, by omega⟩)
      rw [hst.1] at HAD
      simp only [Int.zero_add] at HAD
      have HST := Lib.hid hst.2
      generalize T[k] = s at x0 x1 x2 HST HAD
      generalize whatQ E s = q at x1 x2 HST HAD
      obtain ⟨qa, qb⟩ := q
      simp only at x1 x2 HAD
      simp only [HST.out] at HAD
      clear hst hsl hbd
      go_wp2_with fail
      have hcs := fun (p : Since wr) b o h => Since.cells p b o h
      refine wp_region_since_tail 17 (by kernel_rfl) (by kernel_rfl) ?_
      simp only [List.take_succ_cons, List.take_zero, List.drop_succ_cons, List.drop_zero]
      iterate 17 (go_big_quiet_step (fail))
      refine wpQuiet_nil ?_
      intro w6 hw6
      obtain ⟨pp, hp6⟩ := hw6
      have hb6 : Below wr.heap.size wr w6 := by rw [hp6]; exact pp.h
      clear hp6 pp hcs
      have HAD6 := Lib.hid (HAD.out w6 hb6)
      have HB6 := Lib.hid (HBR.out.step hb6)
      have HC6 := Lib.hid (HC.out.below hb6)
      have HO6 := Lib.hid (own_below HO.out hb6)
      have HM6 := Lib.hid (HQ.out.below hb6).isMap
      clear hb6 HAD
      go_wp2_with fail
      refine HAD6.out.mono ?_
      rintro e w7 ⟨rfl, hq7, hg7⟩
      have HQ7 := Lib.hid hq7
      have HB7 := Lib.hid (below_gb HB6.out hg7 (Nat.le_refl _) HB6.out.size)
      have HC7 := Lib.hid (HC6.out.map HM6.out hg7)
      have HO7 := Lib.hid (own_gb HO6.out hg7 (by omega))
      clear hq7 hg7 x0 x1 x2 ca
      go_wp2_with fail
      go_roundg (T.length - (k + 1))
      case measure => omega
      case rel => exact ⟨k + 1, hlt, by first | rfl | go_num | (congr 1; omega), Nat.le_refl _, HQ7, HC7, HO7, HB7⟩
    · have hltz : ¬ (k : Int) < (T.length : Int) := by omega
      have hke : k = T.length := by omega
      subst hke
      go_wp2_with fail
      go_ret
      have h1 := HQ.out
      rw [List.take_length, part_all HH.out] at h1
      exact ⟨_, rfl, Nat.le_refl _, h1.up (by omega), HBR.out⟩
end Go.Proofs.YtpbbbiifeihkaaaGreatDoor
end

/- RdM: ReportDiffs: more, same. -/
section
namespace Go.Proofs.YtpbbbiifeihkaaaGreatDoor
open Go.RowKit
open Go.Maps (Keyed)
open Go.Proofs (encStr)
set_option linter.unusedVariables false
set_option linter.unusedSimpArgs false

/-- The three cells of the k-th change. -/
theorem ch_at {w : World} {base n : Nat} {v : Value} {eF eT : List Evt} {ks : List (List UInt8)} (h : w.ownsRow base 78 3 v n (chCells eF eT ks)) (hn : n = ks.length) (k : Nat) (hk : k < ks.length) :
    ∃ g cap, v = .slice (some ⟨g, 0, none⟩) n cap ∧ base ≤ g ∧ w.cell? ⟨g, k * 3, none⟩ = some (.string ⟨ks[k].toArray⟩) ∧ w.cell? ⟨g, k * 3 + 1, none⟩ = some (.int .i64 (dif eF eT ks[k]).1) ∧ w.cell? ⟨g, k * 3 + 2, none⟩ = some (.int .i64 (dif eF eT ks[k]).2) := by
  have hg : ∀ (ks : List (List UInt8)) (k : Nat) (hk : k < ks.length) (j : Nat), j < 3 → (chCells eF eT ks)[k * 3 + j]? = (chC eF eT ks[k])[j]? := by
    intro ks
    induction ks with
    | nil => intro k hk; simp at hk
    | cons x r ih =>
      intro k hk j hj
      have hx : (chC eF eT x).length = 3 := rfl
      rw [show chCells eF eT (x :: r) = chC eF eT x ++ chCells eF eT r by simp [chCells]]
      cases k with
      | zero => rw [List.getElem?_append_left (by omega)]; simp
      | succ k =>
        rw [List.getElem?_append_right (by omega), hx, show (k + 1) * 3 + j - 3 = k * 3 + j by omega, ih k (by simpa using hk) j hj]
        rfl
  rcases h.2 with ⟨rfl, h0⟩ | ⟨g, cap, cur, rfl, hB, hc, -, -, -, ht⟩
  · omega
  · have hcell : ∀ j, j < 3 → ∀ u, (chC eF eT ks[k])[j]? = some u → w.cell? ⟨g, k * 3 + j, none⟩ = some u := by
      intro j hj u hu
      simp only [World.cell?, hc]
      rw [← hg ks k hk j hj, ← ht, List.getElem?_take_of_lt (by omega), Array.getElem?_toList] at hu
      exact hu
    exact ⟨g, cap, rfl, hB, hcell 0 (by omega) _ rfl, hcell 1 (by omega) _ rfl, hcell 2 (by omega) _ rfl⟩
theorem dif_key {eF eT : List Evt} {s : List UInt8} (h : dif eF eT s ≠ (0, 0)) : s ∈ eT.map Evt.key ∨ s ∈ eF.map Evt.key := by
  apply Classical.byContradiction
  intro hn
  have h1 : (endS eT).lay s = [] := Classical.byContradiction fun h => hn (.inl (end_mem h))
  have h2 : (endS eF).lay s = [] := Classical.byContradiction fun h => hn (.inr (end_mem h))
  apply h
  unfold dif whatQ
  rw [h1, h2]
  rfl
theorem DifP.len {eF eT : List Evt} {D : List (List UInt8)} (h : DifP eF eT D) : D.length ≤ eT.length + eF.length := by
  have := List.Nodup.length_le_of_subset h.nd (l₂ := eT.map Evt.key ++ eF.map Evt.key) (fun s hs => List.mem_append.2 (dif_key ((h.mem s).1 hs)))
  simpa using this
theorem DifP.short {eF eT : List Evt} {D : List (List UInt8)} (h : DifP eF eT D) (hT : ∀ e ∈ eT, e.right = true) (hF : ∀ e ∈ eF, e.right = true) {s : List UInt8} (hs : s ∈ D) : s.length ≤ maxLen := by
  have key : ∀ (e : Evt), e.right = true → e.key.length ≤ maxLen := fun e he => by
    have h1 := (right_bd he).1
    have h2 : e.key.length = e.item.size := by simp [Evt.key]
    unfold maxLen
    omega
  rcases dif_key ((h.mem s).1 hs) with h | h
  · obtain ⟨e, he, rfl⟩ := List.mem_map.1 h; exact key e (hT e he)
  · obtain ⟨e, he, rfl⟩ := List.mem_map.1 h; exact key e (hF e he)
def addQ (a b : Int × Int) : Int × Int := (a.1 + b.1, a.2 + b.2)
def plusD (c d : List UInt8 → Int × Int) (D : List (List UInt8)) : List UInt8 → Int × Int := fun s => if s ∈ D then addQ (c s) (d s) else c s
theorem plusD_step (c d : List UInt8 → Int × Int) (D : List (List UInt8)) (k : Nat) (hk : k < D.length) (hnd : D.Nodup) : (plusD c d (D.take k) D[k] = c D[k]) ∧ updP (plusD c d (D.take k)) D[k] (addQ (c D[k]) (d D[k])) = plusD c d (D.take (k + 1)) := by
  have hnin : D[k] ∉ D.take k := fun h => by
    obtain ⟨j, hj, e⟩ := List.getElem_of_mem h
    rw [List.length_take] at hj
    rw [List.getElem_take] at e
    exact (List.pairwise_iff_getElem.1 hnd) j k (by omega) hk (by omega) e
  refine ⟨by unfold plusD; rw [if_neg hnin], ?_⟩
  funext s
  unfold updP plusD
  by_cases e : s = D[k]
  · rw [if_pos e, if_pos ((mem_take_succ hk s).2 (.inr e)), e]
  · rw [if_neg e]
    by_cases h : s ∈ D.take k
    · rw [if_pos h, if_pos ((mem_take_succ hk s).2 (.inl h))]
    · rw [if_neg h, if_neg (fun h2 => ((mem_take_succ hk s).1 h2).elim h e)]
theorem plusD_all {eF eT : List Evt} {D : List (List UInt8)} (h : DifP eF eT D) (c : List UInt8 → Int × Int) : plusD c (dif eF eT) D = fun s => addQ (c s) (dif eF eT s) := by
  funext s
  unfold plusD
  by_cases hs : s ∈ D
  · rw [if_pos hs]
  · rw [if_neg hs]
    have : dif eF eT s = (0, 0) := Classical.byContradiction fun hn => hs ((h.mem s).2 hn)
    rw [this]
    simp [addQ]
set_option maxHeartbeats 4000000 in
set_option maxRecDepth 100000 in
theorem more_any (B PB PN PA bm m : Nat) (b : Bk) (n f t : Int) (c : List UInt8 → Int × Int) (w : World) (hk : BkW w B b) (hI : BkI b) (hc : CapW w B PB PN PA n) (hq : QW w bm c m) (hm : m ≤ 700)
    (hb : ∀ s, -100000000000000 ≤ (c s).1 ∧ (c s).1 ≤ 100000000000000 ∧ -100000000000000 ≤ (c s).2 ∧ (c s).2 ≤ 100000000000000) :
    Calls Tryz.prog 27 #[.map (some bm), .int .i64 f, .int .i64 t, .pointer (some ⟨PB, 0, none⟩), .pointer (some ⟨PN, 0, none⟩), .pointer (some ⟨PA, 0, none⟩)] w fun e w' => e = .returned (.tuple #[]) ∧ QW w' bm (fun s => addQ (c s) (dif (upTo n (b.as f)) (upTo n (b.as t)) s)) (m + 240) ∧ w.grownBy w' (some bm) := by
  have HA := Lib.hid (diff_any B b n f t w hk hI)
  have hlT : (upTo n (b.as t)).length ≤ 120 := Nat.le_trans (List.length_filter_le _ _) (as_le hI t)
  have hlF : (upTo n (b.as f)).length ≤ 120 := Nat.le_trans (List.length_filter_le _ _) (as_le hI f)
  have HNT : Hid (∀ e ∈ upTo n (b.as t), e.right = true) := Lib.hid (fun e he => ((as_ok hI t).1 e (List.mem_filter.1 he).1).2.2)
  have HNF : Hid (∀ e ∈ upTo n (b.as f), e.right = true) := Lib.hid (fun e he => ((as_ok hI f).1 e (List.mem_filter.1 he).1).2.2)
  have HCB := Lib.hid hb
  have HC0 := Lib.hid hc
  have HQ0 := Lib.hid hq
  have hbm := hq.lt
  have cb := hc.b
  have cn := hc.n
  have hbl := cell_lt cb
  have hnl := cell_lt cn
  obtain ⟨E, hE⟩ : ∃ E, E = upTo n (b.as t) := ⟨_, rfl⟩
  obtain ⟨F, hF⟩ : ∃ F, F = upTo n (b.as f) := ⟨_, rfl⟩
  rw [← hE, ← hF] at HA ⊢
  rw [← hE] at hlT HNT
  rw [← hF] at hlF HNF
  clear hE hF hk hc hq hb
  go_enter Tryz.func27, Tryz.ntmps27
  go_wp2_with fail
  refine HA.out.mono ?_
  rintro e w2 ⟨v2, D, rfl, hd, ho2, hb2⟩
  have HC2 := Lib.hid (HC0.out.below hb2)
  have HQ2 := Lib.hid (HQ0.out.below hb2)
  have HG2 := Lib.hid (gbB (some bm) hb2)
  have HD := Lib.hid hd
  have hDl : D.length ≤ 240 := Nat.le_trans hd.len (by omega)
  obtain ⟨a2, c2, rfl⟩ := own_slice ho2
  have HO2 := Lib.hid ho2
  clear hd ho2 hb2 HA HC0 HQ0 cb cn hbl hnl
  go_wp2_with fail
  go_loopg [10] D.length (fun kx i wr => ∃ k : Nat, k ≤ D.length ∧ i = .int .i64 k ∧ D.length - k ≤ kx ∧ Hid (QW wr bm (plusD c (dif F E) (D.take k)) (m + k)) ∧ Hid (CapW wr B PB PN PA n) ∧ Hid (wr.ownsRow w.heap.size 78 3 (.slice a2 D.length c2) D.length (chCells F E D)) ∧ Hid (w.grownBy wr (some bm)))
  case atStart => exact ⟨0, by omega, rfl, by omega, Lib.hid (by rw [show plusD c (dif F E) (D.take 0) = c from by funext s; unfold plusD; rw [if_neg (by simp)]]; exact HQ2.out), HC2, HO2, HG2⟩
  case round =>
    obtain ⟨k, hk, rfl, hkx, HQ, HC, HO, HG⟩ := hrel
    by_cases hlt : k < D.length
    · have hltz : (k : Int) < (D.length : Int) := by omega
      obtain ⟨g, cap, e, -, x0, x1, x2⟩ := ch_at HO.out rfl k hlt
      injection e with e1 e2 e3
      subst e1 e3
      have hst := plusD_step c (dif F E) D k hlt HD.out.nd
      have hsl := HD.out.short HNT.out HNF.out (List.getElem_mem hlt)
      have hb1 := what_bd E D[k]
      have hb2 := what_bd F D[k]
      have hb3 := HCB.out D[k]
      have hdd : -12000000 ≤ (dif F E D[k]).1 ∧ (dif F E D[k]).1 ≤ 12000000 ∧ -12000000000000 ≤ (dif F E D[k]).2 ∧ (dif F E D[k]).2 ≤ 12000000000000 := by
        unfold dif subQ
        simp only
        omega
      have ca := HC.out.a
      have hal := cell_lt ca
      have hgl : g < wr.heap.size := cell_lt x0
      have HAD := Lib.hid (fun W (hb : Below wr.heap.size wr W) => add_any bm (m + k) (plusD c (dif F E) (D.take k)) D[k] (dif F E D[k]).1 (dif F E D[k]).2 W (HQ.out.below hb) hsl (by omega) (by rw [hst.1]; omega) (by omega))
      rw [hst.1] at HAD
      have HST := Lib.hid hst.2
      unfold addQ at HST
      simp only [HST.out] at HAD
      generalize D[k] = s at x0 x1 x2 HAD
      generalize dif F E s = q at x1 x2 HAD
      obtain ⟨qa, qb⟩ := q
      simp only at x1 x2 HAD
      clear hst hsl hb1 hb2 hb3 hdd
      go_wp2_with fail
      have hcs := fun (p : Since wr) b o h => Since.cells p b o h
      refine wp_region_since_tail 17 (by kernel_rfl) (by kernel_rfl) ?_
      simp only [List.take_succ_cons, List.take_zero, List.drop_succ_cons, List.drop_zero]
      iterate 17 (go_big_quiet_step (fail))
      refine wpQuiet_nil ?_
      intro w6 hw6
      obtain ⟨pp, hp6⟩ := hw6
      have hb6 : Below wr.heap.size wr w6 := by rw [hp6]; exact pp.h
      clear hp6 pp hcs
      have HAD6 := Lib.hid (HAD.out w6 hb6)
      have HG6 := Lib.hid (gbT HG.out (gbB (some bm) hb6))
      have HC6 := Lib.hid (HC.out.below hb6)
      have HO6 := Lib.hid (own_below HO.out hb6)
      have HM6 := Lib.hid (HQ.out.below hb6).isMap
      clear hb6 HAD
      go_wp2_with fail
      refine HAD6.out.mono ?_
      rintro e w7 ⟨rfl, hq7, hg7⟩
      have HQ7 := Lib.hid hq7
      have HG7 := Lib.hid (gbT HG6.out hg7)
      have HC7 := Lib.hid (HC6.out.map HM6.out hg7)
      have HO7 := Lib.hid (own_gb HO6.out hg7 hbm)
      clear hq7 hg7 x0 x1 x2 ca
      go_wp2_with fail
      go_roundg (D.length - (k + 1))
      case measure => omega
      case rel => exact ⟨k + 1, hlt, by first | rfl | go_num | (congr 1; omega), Nat.le_refl _, HQ7, HC7, HO7, HG7⟩
    · have hltz : ¬ (k : Int) < (D.length : Int) := by omega
      have hke : k = D.length := by omega
      subst hke
      go_wp2_with fail
      go_end0
      have h1 := HQ.out
      rw [List.take_length, plusD_all HD.out] at h1
      exact ⟨rfl, h1.up (by omega), HG.out⟩
set_option maxHeartbeats 4000000 in
set_option maxRecDepth 100000 in
theorem same_any (b1 b2 m1 m2 : Nat) (c : List UInt8 → Int × Int) (w : World) (h1 : QW w b1 c m1) (h2 : QW w b2 c m2) :
    Calls Tryz.prog 29 #[.map (some b1), .map (some b2)] w (Gives (.bool true) w) := by
  obtain ⟨k1, f1, hm1, hk1, hf1, -⟩ := h1
  obtain ⟨k2, f2, hm2, hk2, hf2, -⟩ := h2
  have hlen : k1.length = k2.length := by
    refine ((List.perm_ext_iff_of_nodup hm1.nd hm2.nd).2 fun x => ?_).length_eq
    obtain ⟨-, -, -, -, s1⟩ := hm1.strs (Maps.string_keyed Tryz.underlying9) Tryz.underlying9
    obtain ⟨-, -, -, -, s2⟩ := hm2.strs (Maps.string_keyed Tryz.underlying9) Tryz.underlying9
    constructor
    · intro hx
      obtain ⟨s, rfl, -⟩ := s1 x hx
      exact (hk2 s).2 ((hk1 s).1 hx)
    · intro hx
      obtain ⟨s, rfl, -⟩ := s2 x hx
      exact (hk1 s).2 ((hk2 s).1 hx)
  have l1 := fun ty => MV.len hm1 Tryz.underlying68 ty
  have l2 := fun ty => MV.len hm2 Tryz.underlying68 ty
  rw [← hlen] at l2
  have hne : ((k1.length : Int) != (k1.length : Int)) = false := by simp
  obtain ⟨w1, hrng, hr1, hb1, hz1⟩ := MV.range hm1 (Go.Maps.string_keyed Tryz.underlying9) Tryz.underlying68
  have H2 := Lib.hid hm2
  have hl1 := hm1.lt
  have HF1 := Lib.hid hf1
  have HF2 := Lib.hid hf2
  have HR1 := Lib.hid hr1
  have HB1 := Lib.hid hb1
  have heq := arr_eql
  clear hk1 hk2 hf1 hf2 hlen hr1 hz1 hm1 hm2 hb1
  go_enter Tryz.func29, Tryz.ntmps29
  go_wp2_with fail
  go_loopw [5] (fun _ wr => ∃ rest, Hid (MR Tryz.prog 9 (.agg #[.int .i64 0, .int .i64 0]) wr b1 w.heap.size k1 f1 rest) ∧ Hid (Below w.heap.size w wr)) (fun _ wr => wr.rangeLeft b1 w.heap.size)
  case atStart => exact ⟨k1, HR1, HB1⟩
  case round =>
    obtain ⟨rest, HR, HB⟩ := hrel
    rcases HR.out.next (Go.Maps.string_keyed Tryz.underlying9) 0 with ⟨-, hnx⟩ | ⟨key, kl, w3, hkey, hkl, hnx, hr3, hg3, hz3, hlt3, hen⟩
    · go_wp2
      go_ret
      exact ⟨rfl, HB.out⟩
    · obtain ⟨x, rfl, rfl, -⟩ := Maps.keyOf_str Tryz.underlying9 hkey
      have hb3 : Below w.heap.size w w3 := HB.out.grown hg3 HB.out.size (fun j e => by cases e; exact Nat.le_refl _)
      have hget := fun (o : Obj) => MV.get (MV.alloc (MV.below H2.out hb3) o) (Go.Maps.string_keyed Tryz.underlying9) Tryz.underlying68 (zero_a _) hkey
      rw [HF1.out] at hnx hen
      simp only [HF2.out] at hget
      generalize c x = q at hnx hen hget
      obtain ⟨qa, qb⟩ := q
      simp only [pV] at hnx hen hget
      have hbx := (Below.refl w3.heap.size w3).new (.cells #[.int .i64 qa, .int .i64 qb] 69)
      have HR4 := Lib.hid (hr3.below hbx)
      have HLT := Lib.hid hlt3
      have hrl := hr3.lt
      have hs3 := hb3.size
      have HLF := Lib.hid (left_blk (hbx.block b1 (by omega)) (hbx.block w.heap.size hrl))
      have HB4 := Lib.hid (hb3.step hbx)
      have hqq : (qa == qa && qb == qb) = true := by simp
      clear hz3 hlt3 hkey hkl hr3 hg3 hbx hb3 HR HB
      unfold encStr at hnx hen hget
      go_wp2_with fail
      go_roundw
      case rel => exact ⟨_, HR4, HB4⟩
      case measure => rw [HLF.out]; exact HLT.out
end Go.Proofs.YtpbbbiifeihkaaaGreatDoor
end

/- LawRd: ReportDiffs, walked. -/
section
namespace Go.Proofs.YtpbbbiifeihkaaaGreatDoor
open Go.RowKit
open Go.Maps (Keyed)
set_option linter.unusedVariables false
set_option linter.unusedSimpArgs false

theorem add_dif (eF eT : List Evt) : (fun s => addQ (whatQ eF s) (dif eF eT s)) = whatQ eT := by
  funext s
  unfold addQ dif subQ
  exact Prod.ext (by show _ + (_ - _) = _; omega) (by show _ + (_ - _) = _; omega)
theorem dif_self (es : List Evt) (s : List UInt8) : dif es es s = (0, 0) := by
  unfold dif subQ
  simp
theorem difP_self {es : List Evt} {D : List (List UInt8)} (h : DifP es es D) : D = [] := by
  cases D with
  | nil => rfl
  | cons x r => exact absurd (dif_self es x) ((h.mem x).1 (by simp))
set_option maxHeartbeats 1000000 in
set_option maxRecDepth 100000 in
theorem pick_any (k n : Int) (w : World) (hn : 1 ≤ n ∧ n ≤ 1000) : Calls Tryz.prog 23 #[.int .i64 k, .int .i64 n] w fun e w' => ∃ z, e = .returned (.int .i64 z) ∧ w' = w := by
  go_enter Tryz.func23, Tryz.ntmps23
  go_wp2_with fail
  go_ret
  exact ⟨_, rfl, rfl⟩
set_option maxHeartbeats 8000000 in
set_option maxRecDepth 100000 in
theorem reportDiffs_any (hi : Nat) (v : Value) (l : List ActV) (n a1 c1 d1 : Int) (w : World) (hr : RdA hi w v l) (hh : hi ≤ w.heap.size) :
    Calls Tryz.prog 5 #[v, .int .i64 n, .int .i64 a1, .int .i64 c1, .int .i64 d1] w (Gives (.bool true) w) := by
  have HBN := Lib.hid ((Below.refl w.heap.size w).new (.cells #[.int .i64 n] 3))
  have HRN := Lib.hid (rdA_below hr HBN.out hh)
  have hhn : hi ≤ (w.alloc (.cells #[.int .i64 n] 3)).heap.size := by simp; omega
  have HS := Lib.hid (small_any hi v l (w.alloc (.cells #[.int .i64 n] 3)) HRN.out hhn)
  have hNN := World.alloc_heap_new w (.cells #[.int .i64 n] 3)
  obtain ⟨a, c, rfl, -⟩ := hr
  by_cases hsm : smallA l = true
  · have hs2 := hsm
    simp only [smallA, Bool.and_eq_true, decide_eq_true_eq, List.all_eq_true] at hs2
    obtain ⟨hlen, hit⟩ := hs2
    have HIT := Lib.hid hit
    rw [hsm] at HS
    have hcn : (w.alloc (.cells #[.int .i64 n] 3)).cell? ⟨w.heap.size, 0, none⟩ = some (.int .i64 n) := by simp only [World.cell?, hNN]; rfl
    have HCN := Lib.hid hcn
    clear hsm hit hNN hcn
    go_enter Tryz.func5, Tryz.ntmps5
    go_wp2_with fail
    generalize (w.alloc (.cells #[.int .i64 n] 3)) = w0 at HBN HRN HS HCN hhn ⊢
    refine HS.out.mono ?_
    rintro x w1 ⟨rfl, hb1⟩
    have HB1 := Lib.hid (HBN.out.step hb1)
    have HR1 := Lib.hid (rdA_below HRN.out hb1 hhn)
    have hh1 : hi ≤ w1.heap.size := Nat.le_trans hhn hb1.size
    have HCN1 : Hid (w1.cell? ⟨w.heap.size, 0, none⟩ = some (.int .i64 n)) := Lib.hid ((hb1.cell (p := ⟨w.heap.size, 0, none⟩) (cell_lt HCN.out)).trans HCN.out)
    clear hb1 HS HBN HRN HCN hhn
    go_wp2_with fail
    refine (reported_any _).mono ?_
    rintro x w2 ⟨rfl, hb2⟩
    have HB2 := Lib.hid (HB1.out.step hb2)
    have HR2 : Hid (RdA hi w2 (.slice a l.length c) l) := Lib.hid (rdA_below HR1.out hb2 hh1)
    have HCN2 : Hid (w2.cell? ⟨w.heap.size, 0, none⟩ = some (.int .i64 n)) := Lib.hid ((hb2.cell (p := ⟨w.heap.size, 0, none⟩) (cell_lt HCN1.out)).trans HCN1.out)
    have HM := Lib.hid (made_any hi _ l w2 HR2.out (Nat.le_trans hh1 hb2.size) hlen HIT.out)
    clear hb2 HR1 HCN1
    go_wp2_with fail
    refine HM.out.mono ?_
    rintro x w3 ⟨rfl, hk3, hb3⟩
    have HK3 := Lib.hid hk3
    have HB3 := Lib.hid (HB2.out.step hb3)
    have HCN3 : Hid (w3.cell? ⟨w.heap.size, 0, none⟩ = some (.int .i64 n)) := Lib.hid ((hb3.cell (p := ⟨w.heap.size, 0, none⟩) (cell_lt HCN2.out)).trans HCN2.out)
    have HI := Lib.hid (madeB_ok l).1
    have hbt := (madeB_ok l).2.1
    generalize w2.heap.size = B at HK3 ⊢
    generalize madeB l = b at HK3 HI hbt
    have hbt0 := HI.out.turn0
    clear hk3 hb3 HM HR2 HCN2
    have hb34 := (Below.refl w3.heap.size w3).new (.cells #[.pointer (some ⟨B, 0, none⟩)] 50)
    have hNB := World.alloc_heap_new w3 (.cells #[.pointer (some ⟨B, 0, none⟩)] 50)
    have HK4 := Lib.hid (HK3.out.below hb34)
    have HB4 := Lib.hid (HB3.out.step hb34)
    have HCN4 : Hid ((w3.alloc (.cells #[.pointer (some ⟨B, 0, none⟩)] 50)).cell? ⟨w.heap.size, 0, none⟩ = some (.int .i64 n)) := Lib.hid ((hb34.cell (p := ⟨w.heap.size, 0, none⟩) (cell_lt HCN3.out)).trans HCN3.out)
    have HCB4 : Hid ((w3.alloc (.cells #[.pointer (some ⟨B, 0, none⟩)] 50)).cell? ⟨w3.heap.size, 0, none⟩ = some (.pointer (some ⟨B, 0, none⟩))) := Lib.hid (by simp only [World.cell?, hNB]; rfl)
    clear hb34 hNB
    go_wp2_with fail
    generalize (w3.alloc (.cells #[.pointer (some ⟨B, 0, none⟩)] 50)) = w4 at HK4 HB4 HCN4 HCB4 ⊢
    generalize w3.heap.size = PB at HCB4 ⊢
    refine (turn_any B b w4 HK4.out).mono ?_
    rintro x w5 ⟨rfl, rfl⟩
    go_wp2_with fail
    refine (pick_any a1 (b.turn + 1) w5 (by omega)).mono ?_
    rintro x w6 ⟨za, rfl, rfl⟩
    go_wp2_with fail
    refine (pick_any c1 (b.turn + 1) w6 (by omega)).mono ?_
    rintro x w7 ⟨zc, rfl, rfl⟩
    go_wp2_with fail
    refine (pick_any d1 (b.turn + 1) w7 (by omega)).mono ?_
    rintro x w8 ⟨zd, rfl, rfl⟩
    have hb89 := (Below.refl w8.heap.size w8).new (.cells #[.func (.func 24) #[] #[]] 70)
    have hNA := World.alloc_heap_new w8 (.cells #[.func (.func 24) #[] #[]] 70)
    have HK9 := Lib.hid (HK4.out.below hb89)
    have HB9 := Lib.hid (HB4.out.step hb89)
    have HC9 : Hid (CapW (w8.alloc (.cells #[.func (.func 24) #[] #[]] 70)) B PB w.heap.size w8.heap.size n) := Lib.hid ⟨(hb89.cell (p := ⟨PB, 0, none⟩) (cell_lt HCB4.out)).trans HCB4.out, (hb89.cell (p := ⟨w.heap.size, 0, none⟩) (cell_lt HCN4.out)).trans HCN4.out, by simp only [World.cell?, hNA]; rfl⟩
    clear hb89 hNA HCN4 HCB4 HCN3 hbt hbt0
    go_wp2_with fail
    generalize (w8.alloc (.cells #[.func (.func 24) #[] #[]] 70)) = v0 at HK9 HB9 HC9 ⊢
    generalize w8.heap.size = PA at HC9 ⊢
    have hbdd : ∀ t s, -100000000000000 ≤ (whatQ (upTo n (b.as t)) s).1 ∧ (whatQ (upTo n (b.as t)) s).1 ≤ 100000000000000 ∧ -100000000000000 ≤ (whatQ (upTo n (b.as t)) s).2 ∧ (whatQ (upTo n (b.as t)) s).2 ≤ 100000000000000 := fun t s => by
      have h1 := what_bd (upTo n (b.as t)) s
      have h2 : (upTo n (b.as t)).length ≤ 120 := Nat.le_trans (List.length_filter_le _ _) (as_le HI.out t)
      omega
    have HBD := Lib.hid hbdd
    clear hbdd
    refine (hold_any B PB w.heap.size PA b n za v0 HK9.out HI.out HC9.out).mono ?_
    rintro x v1 ⟨mx, rfl, hmx, hq1, hb1⟩
    have HQ1 := Lib.hid hq1
    have HK10 := Lib.hid (HK9.out.below hb1)
    have HC10 := Lib.hid (HC9.out.below hb1)
    have HB10 := Lib.hid (HB9.out.step hb1)
    have hv0 := HB9.out.size
    clear hq1 hb1
    go_wp2_with fail
    refine (more_any B PB w.heap.size PA mx 120 b n za zc _ v1 HK10.out HI.out HC10.out HQ1.out (by omega) (HBD.out za)).mono ?_
    rintro x v2 ⟨rfl, hq2, hg2⟩
    rw [add_dif] at hq2
    have HQ2 := Lib.hid hq2
    have HK11 := Lib.hid (bkW_map HK10.out HQ1.out.isMap hg2)
    have HC11 := Lib.hid (HC10.out.map HQ1.out.isMap hg2)
    have HB11 := Lib.hid (below_gb HB10.out hg2 (by omega) HB10.out.size)
    clear hq2 hg2
    go_wp2_with fail
    refine (hold_any B PB w.heap.size PA b n zc v2 HK11.out HI.out HC11.out).mono ?_
    rintro x v3 ⟨my, rfl, hmy, hq3, hb3⟩
    have HQ3 := Lib.hid hq3
    have HQ2' := Lib.hid (HQ2.out.below hb3)
    have HK12 := Lib.hid (HK11.out.below hb3)
    have HC12 := Lib.hid (HC11.out.below hb3)
    have HB12 := Lib.hid (HB11.out.step hb3)
    clear hq3 hb3
    go_wp2_with fail
    refine (same_any mx my _ _ _ v3 HQ2'.out HQ3.out).mono ?_
    rintro x v4 ⟨rfl, hb4⟩
    have HK13 := Lib.hid (HK12.out.below hb4)
    have HC13 := Lib.hid (HC12.out.below hb4)
    have HB13 := Lib.hid (HB12.out.step hb4)
    have cb13 := HC13.out.b
    have cn13 := HC13.out.n
    clear hb4
    have HDF := Lib.hid (diff_any B b n za za v4 HK13.out HI.out)
    go_wp2_with fail
    refine HDF.out.mono ?_
    rintro x v5 ⟨vd, D, rfl, hd, ho5, hb5⟩
    obtain rfl := difP_self hd
    obtain ⟨ad, cd, rfl⟩ := own_slice ho5
    have HK14 := Lib.hid (HK13.out.below hb5)
    have HC14 := Lib.hid (HC13.out.below hb5)
    have HB14 := Lib.hid (HB13.out.step hb5)
    clear hb5 hd ho5 HDF cb13 cn13
    go_wp2_with fail
    refine (hold_any B PB w.heap.size PA b n za v5 HK14.out HI.out HC14.out).mono ?_
    rintro x v6 ⟨mz, rfl, hmz, hq6, hb6⟩
    have HQ6 := Lib.hid hq6
    have HK15 := Lib.hid (HK14.out.below hb6)
    have HC15 := Lib.hid (HC14.out.below hb6)
    have HB15 := Lib.hid (HB14.out.step hb6)
    have hv5 := HB14.out.size
    clear hq6 hb6
    go_wp2_with fail
    refine (more_any B PB w.heap.size PA mz 120 b n za zd _ v6 HK15.out HI.out HC15.out HQ6.out (by omega) (HBD.out za)).mono ?_
    rintro x v7 ⟨rfl, hq7, hg7⟩
    rw [add_dif] at hq7
    have HQ7 := Lib.hid hq7
    have HK16 := Lib.hid (bkW_map HK15.out HQ6.out.isMap hg7)
    have HC16 := Lib.hid (HC15.out.map HQ6.out.isMap hg7)
    have HB16 := Lib.hid (below_gb HB15.out hg7 (by omega) HB15.out.size)
    clear hq7 hg7
    go_wp2_with fail
    refine (more_any B PB w.heap.size PA mz 360 b n zd zc _ v7 HK16.out HI.out HC16.out HQ7.out (by omega) (HBD.out zd)).mono ?_
    rintro x v8 ⟨rfl, hq8, hg8⟩
    rw [add_dif] at hq8
    have HQ8 := Lib.hid hq8
    have HK17 := Lib.hid (bkW_map HK16.out HQ7.out.isMap hg8)
    have HC17 := Lib.hid (HC16.out.map HQ7.out.isMap hg8)
    have HB17 := Lib.hid (below_gb HB16.out hg8 (by omega) HB16.out.size)
    clear hq8 hg8
    go_wp2_with fail
    refine (hold_any B PB w.heap.size PA b n zc v8 HK17.out HI.out HC17.out).mono ?_
    rintro x v9 ⟨mw, rfl, hmw, hq9, hb9⟩
    have HQ9 := Lib.hid hq9
    have HQ8' := Lib.hid (HQ8.out.below hb9)
    have HB18 := Lib.hid (HB17.out.step hb9)
    clear hq9 hb9
    go_wp2_with fail
    refine (same_any mz mw _ _ _ v9 HQ8'.out HQ9.out).mono ?_
    rintro x v10 ⟨rfl, hb10⟩
    go_wp2_with fail
    go_ret
    exact ⟨rfl, HB18.out.step hb10⟩
  · rw [Bool.not_eq_true] at hsm
    rw [hsm] at HS
    clear hsm hNN
    go_enter Tryz.func5, Tryz.ntmps5
    go_wp2_with fail
    refine HS.out.mono ?_
    rintro x w1 ⟨rfl, hb1⟩
    go_wp2_with fail
    go_ret
    exact ⟨rfl, HBN.out.step hb1⟩
theorem reportDiffs_go (hi : Nat) (v : Value) (l : List ActV) (n a1 c1 d1 : Int) (w : World) (hr : RdA hi w v l) (hh : hi ≤ w.heap.size) (_ : (Lit.int .i64 n).wf = true) (_ : (Lit.int .i64 a1).wf = true) (_ : (Lit.int .i64 c1).wf = true) (_ : (Lit.int .i64 d1).wf = true) :
    Calls Tryz.prog 5 #[v, .int .i64 n, .int .i64 a1, .int .i64 c1, .int .i64 d1] w (Gives (.bool true) w) := reportDiffs_any hi v l n a1 c1 d1 w hr hh
end Go.Proofs.YtpbbbiifeihkaaaGreatDoor
end
