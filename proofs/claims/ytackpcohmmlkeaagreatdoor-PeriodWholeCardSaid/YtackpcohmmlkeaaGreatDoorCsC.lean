/- The teller takes: of the first layers first. -/
import Derived.Test.YtackpcohmmlkeaaGreatDoorCsB
import Derived.Test.YtackpcohmmlkeaaGreatDoorMoneyA
import Derived.Deep.Upon
import Derived.Deep.DeepCutAuto
import Derived.BigRegion
import Derived.Shelf.RegionOpenPlain
import Derived.Lib.Hide
namespace Go.Proofs.YtackpcohmmlkeaaGreatDoor
open Go.RowKit
open Go.Maps (Keyed)
set_option linter.unusedVariables false

theorem run_app {w : World} (ty : TypeId) (a : Option Addr) (c : Nat) (ls ns : List Lay) (h : RdY w (.slice a ls.length c) ls) (hc : c = ls.length) (ax : Option Addr) (c2 : Nat) (hr : RdY w (.slice ax ns.length c2) ns) (hb : ls.length + ns.length ≤ 100000) :
    ∃ v' w', (Builtin.append_ #[136, 136] ty #[.slice a ls.length c, .slice ax ns.length c2]).run Tryz.prog w = .ok v' w' ∧ RdY w' v' (ls ++ ns) ∧ Below w.heap.size w w' := by
  obtain ⟨i0, hi, hiz, his, hib⟩ := info_parts info_lay
  have hr0 := hr
  obtain ⟨a', c', h1, h2, h3, h4, h5⟩ := hr0
  injection h1 with e1 e2 e3
  subst e1 e3
  cases ns with
  | nil =>
    refine ⟨_, w, run_append_nothing w 136 136 ty 139 i0 Tryz.underlying136 hi a ls.length c (by omega) (.slice ax 0 c2) ?_, by rw [List.append_nil]; exact h, Below.refl _ _⟩
    cases ax with
    | none => exact Src.ofNil w Tryz.underlying136 c2
    | some ad => exact Src.ofSlice w Tryz.underlying136 ad 0 c2 [] (by simp) (by simp) (by simp)
  | cons x r =>
    cases ax with
    | none =>
      have := h4 rfl
      subst this
      simp at h2
    | some ad => exact run_app_full ty a c ls (x :: r) h hc ad c2 (by simp) h5.1 hb
theorem wpList_app {w : World} {ops : Array Oper} {rest : List Oper} {o : Oper} {a : Act} {Q : Exit → Act → World → Prop} (hgd : o.guard = none) (s x : Operand)
    (ho : o.op = .call { callee := .builtin .append, args := #[s, x], argTypes := #[136, 136] }) (sa : Option Addr) (c n n2 : Nat) (ls ns : List Lay) (hs : a.eval s = .slice sa n c) (hn : n = ls.length) (h : RdY w (.slice sa n c) ls) (hc : c = n)
    (ax : Option Addr) (c2 : Nat) (hx : a.eval x = .slice ax n2 c2) (hn2 : n2 = ns.length) (hr : RdY w (.slice ax n2 c2) ns) (hb : ls.length + ns.length ≤ 100000)
    (hk : ∀ v' w', RdY w' v' (ls ++ ns) → Below w.heap.size w w' → wpList Tryz.prog ops Q rest (a.put o.dst v') w') : wpList Tryz.prog ops Q (o :: rest) a w := by
  subst hn hn2
  obtain ⟨v', w', hrun, h2, h3⟩ := run_app o.type sa c ls ns h hc ax c2 hr hb
  refine wpList_plain hgd fun K hK => ?_
  unfold Oper.wp execOp
  simp only [ho, resolve, invoke, builtin, Sem.run_bind, Sem.run_pure, Result.andThen_ok, List.map_toArray, List.map_cons, List.map_nil, hs, hx, hrun]
  exact hK _ _ (hk v' w' h2 h3)
theorem wp_app2 {w : World} {o : Oper} {a : Act} {K : Act → World → Prop} {Q : Exit → Act → World → Prop} (s x : Operand)
    (ho : o.op = .call { callee := .builtin .append, args := #[s, x], argTypes := #[136, 136] }) (sa : Option Addr) (c n n2 : Nat) (ls ns : List Lay) (hs : a.eval s = .slice sa n c) (hn : n = ls.length) (h : RdY w (.slice sa n c) ls) (hc : c = n)
    (ax : Option Addr) (c2 : Nat) (hx : a.eval x = .slice ax n2 c2) (hn2 : n2 = ns.length) (hr : RdY w (.slice ax n2 c2) ns) (hb : ls.length + ns.length ≤ 100000)
    (hk : ∀ v' w', RdY w' v' (ls ++ ns) → Below w.heap.size w w' → K (a.put o.dst v') w') : o.wp Tryz.prog a w K Q := by
  subst hn hn2
  obtain ⟨v', w', hrun, h2, h3⟩ := run_app o.type sa c ls ns h hc ax c2 hr hb
  unfold Oper.wp execOp
  simp only [ho, resolve, invoke, builtin, Sem.run_bind, Sem.run_pure, Result.andThen_ok, List.map_toArray, List.map_cons, List.map_nil, hs, hx, hrun]
  exact hk v' w' h2 h3
/-- One layer, laid as a slice. -/
theorem rdY_one (w : World) (x : Lay) : RdY (w.alloc (.cells #[.int .i64 x.id, .int .i64 x.qty, .int .i64 x.val] 139)) (.slice (some ⟨w.heap.size, 0, none⟩) 1 1) [x] := by
  refine ⟨_, 1, rfl, by simp, by unfold maxLen; omega, fun h => (by cases h), ?_, TagY.new w _⟩
  have := rd_new w (flY [x]) [] 139
  simpa [flY, Lay.cells] using this
/-- What is taken, what is missing, what is left. -/
def takeP : List Lay → Int → Int × Int × List Lay
  | [], n => (0, n, [])
  | x :: r, n => if n ≤ 0 then (0, n, x :: r) else if n < x.qty then (x.val * n / x.qty, 0, ⟨x.id, x.qty - n, x.val - x.val * n / x.qty⟩ :: r) else (x.val + (takeP r (n - x.qty)).1, (takeP r (n - x.qty)).2.1, (takeP r (n - x.qty)).2.2)
def sumV (ls : List Lay) : Int := (ls.map Lay.val).sum
/-- Layers as they come: some of each, no value below 0, together no more than B. -/
def GoodY (B : Int) (ls : List Lay) : Prop := (∀ x ∈ ls, 1 ≤ x.qty ∧ x.qty ≤ 100000 ∧ 0 ≤ x.val) ∧ sumV ls ≤ B
theorem sumV_nn {ls : List Lay} (h : ∀ x ∈ ls, 1 ≤ x.qty ∧ x.qty ≤ 100000 ∧ 0 ≤ x.val) : 0 ≤ sumV ls := by
  induction ls with
  | nil => simp [sumV]
  | cons x ls ih =>
    have h1 := h x (by simp)
    have h2 := ih fun y hy => h y (by simp [hy])
    simp only [sumV, List.map_cons, List.sum_cons] at h2 ⊢
    omega
theorem sumV_cons (x : Lay) (ls : List Lay) : sumV (x :: ls) = x.val + sumV ls := by simp [sumV]
/-- Where a slice stands that has lost its first one. -/
def tlo (off c : Nat) : Nat := if c = 1 then off else off + 3
theorem RdY.tail {w : World} {b off n c : Nat} {x : Lay} {r : List Lay} (h : RdY w (.slice (some ⟨b, off, none⟩) n c) (x :: r)) : RdY w (.slice (some ⟨b, tlo off c, none⟩) (n - 1) (c - 1)) r := by
  obtain ⟨a', c', h1, h2, h3, h4, h5⟩ := h
  injection h1 with e1 e2 e3
  subst e1 e2 e3
  simp only [List.length_cons] at h2 ⊢
  have hr : r = [] ∨ tlo off c = off + 3 := by
    unfold tlo
    cases r with
    | nil => exact .inl rfl
    | cons y r => right; simp only [List.length_cons] at h2; rw [if_neg (by omega)]
  rcases hr with rfl | hr
  · exact ⟨_, _, rfl, by omega, by omega, fun h => (by cases h), fun j hj => absurd hj (by simp [flY]), fun p hp => by cases hp; exact h5.2 ⟨b, off, none⟩ rfl⟩
  rw [hr]
  refine ⟨_, _, rfl, by omega, by omega, fun h => (by cases h), fun j hj => ⟨b, off + 3, rfl, ?_⟩, fun p hp => by cases hp; exact h5.2 ⟨b, off, none⟩ rfl⟩
  obtain ⟨b', off', ha, hc⟩ := h5.1 (j + 3) (by simp [flY, Lay.cells] at hj ⊢; omega)
  injection ha with ha; injection ha with p1 p2
  subst p1 p2
  rw [show off + 3 + j = off + (j + 3) by omega, hc]
  simp [flY, Lay.cells, List.getD]

theorem TL_below {w w' : World} {v : Value} {ls : List Lay} (h : Aside (RdY w v ls)) (hb : Below w.heap.size w w') : Aside (RdY w' v ls) := h.out.below hb
theorem slice_tail (b off n cap : Nat) (h : 1 ≤ n) (hc : n ≤ cap) (w : World) :
    (Instr.slice 136 (.slice (some ⟨b, off, none⟩) n cap) (some (.int .i64 1)) none none).run Tryz.prog w = .ok (.slice (some ⟨b, tlo off cap, none⟩) (n - 1) (cap - 1)) w := by
  go_simp
  rw [if_pos (by omega)]
  unfold tlo
  split <;> rfl
set_option maxHeartbeats 4000000 in
set_option maxRecDepth 100000 in
theorem take_any (T bl bm c : Nat) (L : List UInt8 → List Lay) (G : List UInt8 → Int) (s : ByteArray) (n : Int) (w : World) (h : TW w T bl bm c L G) (hs : s.size ≤ maxLen) (hc : c < 1000000) (hn : 0 ≤ n ∧ n ≤ 1000000000000)
    (hg : GoodY 20000000000000 (L s.data.toList)) (hl : (L s.data.toList).length ≤ 1000) :
    Calls Tryz.prog 94 #[.pointer (some ⟨T, 0, none⟩), .string s, .int .i64 n] w fun e w' =>
      e = .returned (.tuple #[.int .i64 (takeP (L s.data.toList) n).1, .int .i64 (takeP (L s.data.toList) n).2.1]) ∧ TW w' T bl bm (c + 1) (updL L s.data.toList (takeP (L s.data.toList) n).2.2) G ∧ Li bl bm w w' := by
  obtain ⟨v, look, hr⟩ := h.look s hs
  have t0 := h.t0
  have HSET : Aside (∀ (W : World) (v : Value) (ls : List Lay), Below w.heap.size w W → RdY W v ls → ∃ w', (Instr.mapUpdate 68 (.map (some bl)) (.string s) v).run Tryz.prog W = .ok () w' ∧ TW w' T bl bm (c + 1) (updL L s.data.toList ls) G ∧ Li bl bm W w') :=
    fun W v ls hb hv => (h.below hb).set s hs (by unfold maxLen; omega) v ls hv
  clear h
  generalize L s.data.toList = ls at hr hg hl ⊢
  have hr0 := hr
  obtain ⟨a, cp, rfl, -⟩ := hr0
  have HR : Aside (RdY w (.slice a ls.length cp) ls) := hr
  have HG : Aside _ := hg
  have HP := Lib.hid (fun (t s m : Int) (w : World) h1 h2 h3 h4 h5 h6 => part_ok t s m w h1 h2 h3 h4 h5 h6)
  clear hr hg
  go_enter Tryz.func94, Tryz.ntmps94
  go_wp2
  go_loopg [2, 6, 8] (ls.length + 1) (fun kx s2 s6 s8 wr => ∃ (m acc : Int) (rest : List Lay) (ra : Option Addr) (rl rc : Nat), s2 = .int .i64 m ∧ s6 = .int .i64 acc ∧ s8 = .slice ra rl rc ∧ Aside (RdY wr (.slice ra rl rc) rest) ∧ Below w.heap.size w wr ∧ (0 ≤ m ∧ m ≤ 1000000000000) ∧ 0 ≤ acc ∧
    Aside (GoodY (20000000000000 - acc) rest) ∧ rest.length ≤ 1000 ∧ (rest.length + (if 0 < m then 1 else 0) ≤ kx) ∧ Hid ((acc + (takeP rest m).1, (takeP rest m).2.1, (takeP rest m).2.2) = ((takeP ls n).1, (takeP ls n).2.1, (takeP ls n).2.2)))
  case atStart => exact ⟨n, 0, ls, a, ls.length, cp, rfl, rfl, rfl, HR, Below.refl _ _, hn, by omega, HG, hl, by split <;> omega, by show _ = _; rw [Int.zero_add]⟩
  case round =>
    obtain ⟨m, acc, rest, ra, rl, rc, rfl, rfl, rfl, hr, hb, hm, hacc, hg, hrl, hkx, HE⟩ := hrel
    clear HR HG look
    have t0r : wr.cell? ⟨T, 0, none⟩ = some (.map (some bl)) := (hb.cell (cell_blk t0)).trans t0
    by_cases hm0 : 0 < m
    · cases rest with
      | nil =>
        obtain ⟨e1, -⟩ : rl = 0 ∧ True := by
          obtain ⟨a', c', h1, -⟩ := hr.out
          injection h1 with _ e2 _
          exact ⟨e2, trivial⟩
        subst e1
        obtain ⟨w', hrun, htw, hli⟩ := HSET.out wr _ [] hb hr.out
        have E := HE.out
        simp only [takeP, Int.add_zero] at E
        injection E with E1 E; injection E with E2 E3
        have HEQ := Lib.hid (And.intro E1 (And.intro E2 E3))
        have HTW : Hid _ := htw
        have HLI : Hid _ := hli
        clear E1 E2 E3 HE htw hli hg hr HSET
        go_wp2
        go_ret2
        obtain ⟨E1, E2, E3⟩ := HEQ.out
        rw [← E1, ← E2, ← E3]
        exact ⟨rfl, HTW.out, (Li.of_below hb).trans HLI.out⟩
      | cons x r =>
        clear HSET
        obtain ⟨hrn, b, off, rfl, p0, p1, p2⟩ := hr.out.at 0 (by simp)
        have hrc : rl ≤ rc := by
          obtain ⟨a', c', h1, h2, -⟩ := hr.out
          injection h1 with _ e2 e3
          subst e3; omega
        have hrl1 : 1 ≤ rl := by simp at hrn; omega
        have htl := hr.out.tail
        have hx := hg.out.1 x (by simp)
        have hV := hg.out.2
        rw [sumV_cons] at hV
        have hV0 := sumV_nn (fun y hy => hg.out.1 y (List.mem_cons_of_mem _ hy) : ∀ y ∈ r, _)
        have hGr := fun y hy => hg.out.1 y (List.mem_cons_of_mem x hy)
        have HRN := Lib.hid hrn
        have HGR := Lib.hid hGr
        have HTL : Aside _ := htl
        obtain ⟨i, q, v⟩ := x
        simp only [List.getElem_cons_zero] at p0 p1 p2 hx hV
        have c0 : wr.cell? ⟨b, off, none⟩ = some (.int .i64 i) := by simpa using p0
        have c1 : wr.cell? ⟨b, off + 1, none⟩ = some (.int .i64 q) := by simpa using p1
        have c2 : wr.cell? ⟨b, off + 2, none⟩ = some (.int .i64 v) := by simpa using p2
        obtain ⟨S, hS⟩ : ∃ S, S = sumV r := ⟨_, rfl⟩
        rw [← hS] at hV hV0
        have HSV : Hid (sumV r = S) := hS.symm
        clear hS
        clear p0 p1 p2 htl hGr hg hr hrn
        obtain ⟨pv, hpv⟩ : ∃ pv, pv = v * min m q / q := ⟨_, rfl⟩
        have hple := part_le v (min m q) q hx.2.2 hx.1 (by omega) (by omega)
        rw [← hpv] at hple
        have HPX : Hid (∀ W, Calls Tryz.prog 137 #[.int .i64 v, .int .i64 (min m q), .int .i64 q] W fun e w' => e = .returned (.tuple #[.int .i64 pv, .nilIface]) ∧ ∃ n, w' = W.drewN n) :=
          Lib.hid (fun W => by rw [hpv]; exact HP.out v (min m q) q W hx.2.2 (by omega) hx.1 hx.2.1 (by omega) (by omega))
        have HPV := Lib.hid hpv
        clear hpv
        have hsl := fun W => slice_tail b off rl rc hrl1 hrc W
        by_cases hmq : m < q
        · have hmin : min m q = m := by omega
          rw [hmin] at HPX HPV
          go_wp2
          clear hmin
          go_quiet ((go_at_call 137; with_reducible exact Calls.quiet_of (HPX.out _)))
          have hb2 : Below wr.heap.size wr (wr.drewN nq) := below_drewN (Below.refl _ _) nq
          have d0 : (wr.drewN nq).cell? ⟨b, off, none⟩ = some (.int .i64 i) := c0
          have d1 : (wr.drewN nq).cell? ⟨b, off + 1, none⟩ = some (.int .i64 q) := c1
          have d2 : (wr.drewN nq).cell? ⟨b, off + 2, none⟩ = some (.int .i64 v) := c2
          have TL2 : Aside _ := TL_below HTL hb2
          clear c0 c1 c2
          generalize wr.drewN nq = w2 at hb2 d0 d1 d2 TL2 ⊢
          have hbl : b < w2.heap.size := cell_blk d0
          have hbn : b ≠ w2.heap.size := by omega
          have hsl0 := hsl
          go_wp2_with fail
          have mixed : Tryz.prog.follows .mixedOrders = true := by kernel_rfl
          go_big_region_o
          clear mixed hsl0
          go_upto_if 74 with fail
          have hB3 : Below wr.heap.size wr (w2.alloc (.cells #[.int .i64 i, .int .i64 (q - m), .int .i64 (v - pv)] 139)).drew := (hb2.new _).drew
          have TL3 : Aside (RdY (w2.alloc (.cells #[.int .i64 i, .int .i64 (q - m), .int .i64 (v - pv)] 139)).drew (.slice (some ⟨b, tlo off rc, none⟩) (rl - 1) (rc - 1)) r) := RdY.below TL2.out ((Below.refl _ w2).new _).drew
          have f0 : (w2.alloc (.cells #[.int .i64 i, .int .i64 (q - m), .int .i64 (v - pv)] 139)).drew.cell? ⟨w2.heap.size, 0, none⟩ = some (.int .i64 i) := by simp
          have f1 : (w2.alloc (.cells #[.int .i64 i, .int .i64 (q - m), .int .i64 (v - pv)] 139)).drew.cell? ⟨w2.heap.size, 1, none⟩ = some (.int .i64 (q - m)) := by simp
          have f2 : (w2.alloc (.cells #[.int .i64 i, .int .i64 (q - m), .int .i64 (v - pv)] 139)).drew.cell? ⟨w2.heap.size, 2, none⟩ = some (.int .i64 (v - pv)) := by simp
          clear TL2
          generalize (w2.alloc (.cells #[.int .i64 i, .int .i64 (q - m), .int .i64 (v - pv)] 139)).drew = W3 at hB3 TL3 f0 f1 f2 ⊢
          generalize w2.heap.size = b2 at f0 f1 f2 ⊢
          have hrn1 : rl - 1 = r.length := by have := HRN.out; simp at this; omega
          have HRN1 := Lib.hid hrn1
          have hrr : r.length ≤ 1000 := by simp at hrl; omega
          have HX : Hid (RdY (W3.alloc (.cells #[.int .i64 i, .int .i64 (q - m), .int .i64 (v - pv)] 139)) (.slice (some ⟨W3.heap.size, 0, none⟩) 1 1) [⟨i, q - m, v - pv⟩]) := rdY_one W3 ⟨i, q - m, v - pv⟩
          have TL4 : Aside (RdY (W3.alloc (.cells #[.int .i64 i, .int .i64 (q - m), .int .i64 (v - pv)] 139)) (.slice (some ⟨b, tlo off rc, none⟩) (rl - 1) (rc - 1)) r) := RdY.below TL3.out ((Below.refl _ W3).new _)
          clear TL3 hrn1
          have hqm : 0 < q - m := by omega
          go_wp2_with (at_builtin; refine wpList_app rfl (.tmp 76) (.tmp 77) rfl (some ⟨W3.heap.size, 0, none⟩) 1 1 (rl - 1) [⟨i, q - m, v - pv⟩] r rfl rfl HX.out rfl (some ⟨b, tlo off rc, none⟩) (rc - 1) rfl HRN1.out TL4.out (by simp; omega) ?_; intro v' w4 hr4 hb4; have hr40 := hr4; obtain ⟨a4, c4, rfl, -⟩ := hr40)
          have hB4 := ((hb.step hB3).new (.cells #[.int .i64 i, .int .i64 (q - m), .int .i64 (v - pv)] 139)).step hb4
          go_roundg (r.length + 1)
          case measure =>
            rw [if_pos hm0] at hkx
            simp only [List.length_cons] at hkx
            omega
          case rel =>
            refine ⟨0, acc + pv, ⟨i, q - m, v - pv⟩ :: r, a4, r.length + 1, c4, rfl, rfl, rfl, hr4, hB4, by omega, by omega, ?_, by simp at hrl ⊢; omega, by simp, (show Hid _ from ?_)⟩
            · refine ⟨fun y hy => ?_, by rw [sumV_cons, HSV.out]; simp only; omega⟩
              rcases List.mem_cons.1 hy with rfl | hy
              · simp only; omega
              · exact HGR.out y hy
            · show _ = _
              rw [← HE.out]
              simp only [takeP, if_neg (show ¬ m ≤ 0 by omega), if_pos hmq, Int.le_refl, if_true]
              rw [HPV.out, Int.add_zero]
        · have hmin : min m q = q := by omega
          rw [hmin] at HPX HPV
          have hpvv : pv = v := by rw [HPV.out]; exact Int.mul_ediv_cancel _ (by omega)
          subst hpvv
          go_wp2
          clear hmin
          go_quiet ((go_at_call 137; with_reducible exact Calls.quiet_of (HPX.out _)))
          have hb2 : Below wr.heap.size wr (wr.drewN nq) := below_drewN (Below.refl _ _) nq
          have d0 : (wr.drewN nq).cell? ⟨b, off, none⟩ = some (.int .i64 i) := c0
          have d1 : (wr.drewN nq).cell? ⟨b, off + 1, none⟩ = some (.int .i64 q) := c1
          have d2 : (wr.drewN nq).cell? ⟨b, off + 2, none⟩ = some (.int .i64 pv) := c2
          have TL2 : Aside _ := TL_below HTL hb2
          clear c0 c1 c2
          generalize wr.drewN nq = w2 at hb2 d0 d1 d2 TL2 ⊢
          have hbl : b < w2.heap.size := cell_blk d0
          have hbn : b ≠ w2.heap.size := by omega
          go_wp2_with fail
          have mixed : Tryz.prog.follows .mixedOrders = true := by kernel_rfl
          go_big_region_o
          clear mixed
          go_wp2
          go_roundg (r.length + (if 0 < m - q then 1 else 0))
          case measure =>
            rw [if_pos hm0] at hkx
            simp only [List.length_cons] at hkx
            split <;> omega
          case rel =>
            refine ⟨m - q, acc + pv, r, some ⟨b, tlo off rc, none⟩, rl - 1, rc - 1, rfl, rfl, rfl, (show Aside _ from ?_), (hb.step hb2).step (((Below.refl _ w2).new _).drew), by omega, by omega, ?_, by simp at hrl; omega, Nat.le_refl _, (show Hid _ from ?_)⟩
            · exact RdY.below TL2.out (((Below.refl _ w2).new _).drew)
            · exact ⟨HGR.out, by rw [HSV.out]; omega⟩
            · show _ = _
              rw [← HE.out]
              simp only [takeP, if_neg (show ¬ m ≤ 0 by omega), if_neg (show ¬ m < q by omega)]
              rw [Int.add_assoc]
    · have hmz : m = 0 := by omega
      subst hmz
      obtain ⟨w', hrun, htw, hli⟩ := HSET.out wr _ rest hb hr.out
      have e0 : takeP rest 0 = (0, 0, rest) := by cases rest <;> simp [takeP]
      have E := HE.out
      rw [e0] at E
      simp only [Int.add_zero] at E
      injection E with E1 E; injection E with E2 E3
      have HEQ := Lib.hid (And.intro E1 (And.intro E2 E3))
      have HTW : Hid _ := htw
      have HLI : Hid _ := hli
      clear E1 E2 E3 HE htw hli hg hr HSET
      go_wp2
      go_ret2
      obtain ⟨E1, E2, E3⟩ := HEQ.out
      rw [← E1, ← E2, ← E3]
      exact ⟨rfl, HTW.out, (Li.of_below hb).trans HLI.out⟩
end Go.Proofs.YtackpcohmmlkeaaGreatDoor
