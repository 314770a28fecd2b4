/- Joined: CsK, CsL. -/
import Derived.Test.YtackpcohmmlkeaaGreatDoorCsRp
import Derived.Test.YtackpcohmmlkeaaGreatDoorCsJ
import Derived.Maps.RangeWalk

/- CsK: maps.DeleteFunc over the teller's layers: what is left are the keys of which something is left. -/
section
namespace Go.Proofs.YtackpcohmmlkeaaGreatDoor
open Go.RowKit
open Go.Maps (Keyed has size Tidy IsMap)
open Go.WideMaps
open Go.Proofs (encStr)
set_option linter.unusedVariables false

section
variable {P : Program} {k : TypeId} {z : Value} {w : World} {b : Nat} {ks : List Lit} {f : Lit → Value}
/-- 'for k, v := range m' under way, from which entries are struck on the way: the keys rest are still to come. -/
structure MD (P : Program) (k : TypeId) (z : Value) (w : World) (b r : Nat) (ks : List Lit) (f : Lit → Value) (rest : List Lit) : Prop where
  ex : ∃ (n : Nat) (D : DataW Value) (left : Lit → Bool) (cnt : Nat), w.ranges P k tokR b r n D left cnt ∧ (∀ kl zd, D.atKey kl zd = if kl ∈ ks then .held (f kl) else zd) ∧ (∀ kl, has D kl = decide (kl ∈ ks)) ∧ size D = ks.length ∧ (∀ kl, left kl = decide (kl ∈ rest))
  nd : ks.Nodup
  zero : ∀ kl, kl ∉ ks → f kl = z
  rnd : rest.Nodup
  sub : ∀ x ∈ rest, x ∈ ks
theorem MD.of {r : Nat} {rest : List Lit} (h : MR P k z w b r ks f rest) : MD P k z w b r ks f rest := by
  obtain ⟨D, left, cnt, h1⟩ := h.ex
  exact ⟨⟨_, D, left, cnt, h1⟩, h.nd, h.zero, h.rnd, h.sub⟩
theorem MD.mv {r : Nat} {rest : List Lit} (h : MD P k z w b r ks f rest) : MV P k z w b ks f := by
  obtain ⟨n, D, left, cnt, hr, hat, hh, hs, hl⟩ := h.ex
  exact ⟨⟨D, by rw [← hs]; exact own_exact hr.owns, hat, hh, hs⟩, h.nd, h.zero⟩
theorem MD.ne {r : Nat} {rest : List Lit} (h : MD P k z w b r ks f rest) : r ≠ b := by obtain ⟨n, D, left, cnt, hr, _⟩ := h.ex; exact hr.ne
theorem MD.lt {r : Nat} {rest : List Lit} (h : MD P k z w b r ks f rest) : r < w.heap.size := by obtain ⟨n, D, left, cnt, hr, _⟩ := h.ex; exact hr.lt
theorem MD.next {r : Nat} {rest : List Lit} (h : MD P k z w b r ks f rest) (K : Keyed P k) (ty : TypeId) :
    (rest = [] ∧ (Instr.next (.pointer (some ⟨r, 0, none⟩)) false ty).run P w = .ok (.tuple #[.bool false]) w) ∨
    ∃ key kl w', keyOf P k key = some kl ∧ kl ∈ rest ∧ (Instr.next (.pointer (some ⟨r, 0, none⟩)) false ty).run P w = .ok (.tuple #[.bool true, key, f kl]) w' ∧ MD P k z w' b r ks f (rest.erase kl) ∧ w.grownBy w' (some r) ∧ w'.heap.size = w.heap.size ∧
      (Instr.entry (.pointer (some ⟨r, 0, none⟩))).run P w' = .ok (.tuple #[key, f kl]) w' := by
  obtain ⟨n, D, left, cnt, hr, hat, hh, hs, hl⟩ := h.ex
  rcases hr.next K ty with ⟨h0, hl0, hrun⟩ | ⟨key, v, kl, y, w', cnt', hkey, hlk, hv, hat', hrun, hrg, hlt, hgr, hsz, hen⟩
  · refine Or.inl ⟨?_, hrun⟩
    cases rest with
    | nil => rfl
    | cons x xs => have := hl x; rw [hl0 x] at this; simp at this
  · have hkr : kl ∈ rest := by have := hl kl; rw [hlk] at this; simpa using this.symm
    have hkk := h.sub kl hkr
    have hvf : v = f kl := by
      have h1 := hat' (.held z)
      rw [hat, if_pos hkk] at h1
      simp only [tokR, Option.some.injEq] at hv
      rw [← hv] at h1
      exact (DataW.held.inj h1).symm
    subst hvf
    refine Or.inr ⟨key, kl, w', hkey, hkr, hrun, ⟨⟨n, D, _, cnt', hrg, hat, hh, hs, fun x => ?_⟩, h.nd, h.zero, h.rnd.erase kl, fun x hx => h.sub x (List.mem_of_mem_erase hx)⟩, hgr, hsz, hen⟩
    rw [hl x]
    by_cases e : x = kl
    · subst e
      have : x.sameKey x = true := WideAt.sameKey_self (K.key hkey)
      rw [this]
      simp [h.rnd.mem_erase_iff]
    · rw [Maps.sameKey_ne e]
      simp [h.rnd.mem_erase_iff, e]
/-- 'delete(m, k)', of an entry that has come. -/
theorem MD.del {r : Nat} {rest : List Lit} {t e ty : TypeId} {key : Value} {kl : Lit} (h : MD P k z w b r ks f rest) (K : Keyed P k) (ht : P.underlying t = some (.map k e)) (hkey : keyOf P k key = some kl) (hk : kl ∉ rest) :
    ∃ w', (Builtin.delete_ #[t, k] ty #[.map (some b), key]).run P w = .ok (.tuple #[]) w' ∧ MD P k z w' b r (ks.erase kl) (upd f kl z) rest ∧ w.grownBy w' (some b) := by
  obtain ⟨n, D, left, cnt, hr, hat, hh, hs, hl⟩ := h.ex
  obtain ⟨w', cnt', hrun, hrg, hle, ht'⟩ := hr.drop K ht hkey ty
  have hsz : size (D.del kl) = (ks.erase kl).length := by
    have := Maps.size_del (k := kl) (hr.owns.tidy K)
    rw [hh, hs] at this
    rw [List.length_erase]
    by_cases hm : kl ∈ ks
    · simp [hm] at this ⊢; omega
    · simp [hm] at this ⊢; omega
  have hmem : ∀ x, x ∈ ks.erase kl ↔ x ∈ ks ∧ x ≠ kl := fun x => by rw [h.nd.mem_erase_iff]; exact And.comm
  refine ⟨w', hrun, ⟨⟨n, _, _, cnt', hrg, fun x zd => ?_, fun x => ?_, hsz, fun x => ?_⟩, h.nd.erase kl, fun x hx => ?_, h.rnd, fun x hx => (hmem x).2 ⟨h.sub x hx, fun e => hk (by rw [← e]; exact hx)⟩⟩, ht'.grown⟩
  · by_cases e : x = kl
    · subst e
      rw [Maps.atKey_del_same, if_neg (fun h' => ((hmem _).1 h').2 rfl)]
    · rw [Maps.atKey_del_other e, hat, upd_other _ _ e]
      by_cases hm : x ∈ ks
      · rw [if_pos hm, if_pos ((hmem _).2 ⟨hm, e⟩)]
      · rw [if_neg hm, if_neg (fun h' => hm ((hmem _).1 h').1)]
  · by_cases e : x = kl
    · subst e
      rw [Maps.has_del_same]
      exact (decide_eq_false (fun h' => ((hmem _).1 h').2 rfl)).symm
    · rw [Maps.has_del_other e, hh]
      have : (x ∈ ks.erase kl) ↔ x ∈ ks := by rw [hmem]; exact ⟨fun h' => h'.1, fun h' => ⟨h', e⟩⟩
      simp [this]
  · rw [hl x]
    by_cases e : x = kl
    · subst e
      simp [hk]
    · rw [Maps.sameKey_ne e]; simp
  · by_cases e : x = kl
    · subst e; rw [upd_same]
    · rw [upd_other _ _ e]
      exact h.zero x (fun h' => hx ((hmem _).2 ⟨h', e⟩))
theorem MD.nocells {r : Nat} {rest : List Lit} (h : MD P k z w b r ks f rest) (cur : Array Value) (t : TypeId) (fz : Nat × Nat) : w.heap[r]? ≠ some (.cells cur t fz) := by
  obtain ⟨n, D, left, cnt, hr, _⟩ := h.ex
  obtain ⟨o, ho, hw⟩ := hr.iter_walk
  rw [ho]; intro e; cases e; cases hw
end
theorem RdY.other {w w' : World} {v : Value} {ls : List Lay} (h : RdY w v ls) {X : Nat} (hg : w.grownBy w' (some X)) (hX : ∀ cur t fz, w.heap[X]? ≠ some (.cells cur t fz)) : RdY w' v ls := by
  obtain ⟨a, c, e1, e2, e3, e4, e5, e6⟩ := h
  have same : ∀ p, a = some p → w'.heap[p.block]? = w.heap[p.block]? := fun p hp => by
    obtain ⟨cu, f, hc⟩ := e6 p hp
    exact hg.block _ (Array.getElem?_eq_some_iff.1 hc).1 (fun e => by cases e; exact hX cu _ f hc)
  refine ⟨a, c, e1, e2, e3, e4, fun j hj => ?_, fun p hp => ?_⟩
  · obtain ⟨b, off, hb, hc⟩ := e5 j hj
    refine ⟨b, off, hb, ?_⟩
    rw [← hc]
    exact World.cell?_of_block (show w'.heap[b]? = w.heap[b]? from same _ hb)
  · obtain ⟨cu, f, hc⟩ := e6 p hp
    exact ⟨cu, f, (same _ hp).trans hc⟩

theorem run1_any (key : Value) (a : Option Addr) (n c : Nat) (w : World) : Calls Tryz.prog 61 #[key, .slice a n c] w fun e w' => e = .returned (.bool ((n : Int) == 0)) ∧ w' = w := by
  go_enter Tryz.func61, Tryz.ntmps61
  go_wp2
  go_ret
  exact ⟨by simp, rfl⟩
/-- What is left when the empty ones are struck. -/
def Kept (w' : World) (bl : Nat) (L : List UInt8 → List Lay) : Prop := ∃ ks f, MV Tryz.prog 9 (.slice none 0 0) w' bl ks f ∧ (∀ l, RdY w' (f (.string l)) (L l)) ∧ ∀ x ∈ ks, ∃ l, x = .string l ∧ L l ≠ []
set_option maxHeartbeats 4000000 in
set_option maxRecDepth 100000 in
theorem deleteFunc_any (T bl bm c : Nat) (L : List UInt8 → List Lay) (G : List UInt8 → Int) (w : World) (h : TW w T bl bm c L G) :
    Calls Tryz.prog 60 #[.map (some bl), .func (.func 61) #[] #[]] w fun e w' => e = .returned (.tuple #[]) ∧ Kept w' bl L ∧ Li bl bm w w' := by
  obtain ⟨t0, t1, ne, ⟨ks, f, m1, m2, m3⟩, -⟩ := h
  have K := Go.Maps.string_keyed (P := Tryz.prog) Tryz.underlying9
  obtain ⟨w1, hrun, hmr, hb1, hz1⟩ := m1.range K Tryz.underlying68
  have hb1' : Li bl bm w w1 := Li.of_below hb1
  have hbl : bl < w.heap.size := m1.lt
  have HS : Hid (∀ l, RdY w1 (f (.string l)) (L l)) := fun l => (m3 l).below hb1
  have HM := MD.of hmr
  obtain ⟨r, hr⟩ : ∃ r, r = w.heap.size := ⟨_, rfl⟩
  rw [← hr] at hrun HM
  have hrl : w.heap.size ≤ r := by omega
  clear hmr hr m1 m2 m3 t0 t1 hb1 hz1
  go_enter Tryz.func60, Tryz.ntmps60
  go_wp2
  go_loopg [8] ks.length (fun kx _ wr => ∃ (ks' rest : List Lit) (f' : Lit → Value), Aside (MD Tryz.prog 9 (.slice none 0 0) wr bl r ks' f' rest) ∧ rest.length ≤ kx ∧ Hid (∀ l, RdY wr (f' (.string l)) (L l)) ∧ Hid (∀ x ∈ ks', x ∈ rest ∨ ∃ l, x = .string l ∧ L l ≠ []) ∧ Li bl bm w wr)
  case atStart => exact ⟨ks, ks, f, HM, Nat.le_refl _, HS, fun x hx => .inl hx, hb1'⟩
  case round =>
    clear HM HS hb1'
    obtain ⟨ks', rest, f', HM, hkx, HS, HK, hli⟩ := hrel
    rcases HM.out.next K 0 with ⟨rfl, hnx⟩ | ⟨key, kl, w2, hkey, hkr, hnx, hm2, hg2, hz2, hen⟩
    · go_wp2
      go_end0
      exact ⟨rfl, ⟨ks', f', HM.out.mv, HS.out, fun x hx => (HK.out x hx).resolve_left (by simp)⟩, hli⟩
    · obtain ⟨x, rfl, rfl, -⟩ := Maps.keyOf_str Tryz.underlying9 hkey
      have hr2 : ∀ l, RdY w2 (f' (.string l)) (L l) := fun l => (HS.out l).other hg2 (fun cur t fz => HM.out.nocells cur t fz)
      have hli2 : Li bl bm w w2 := hli.turn hg2 hrl
      have hx := HS.out x
      obtain ⟨a, cc, hv, -⟩ := hx
      rw [hv] at hnx hen
      have HC := Lib.hid (run1_any (.string ⟨x.toArray⟩) a (L x).length cc w2)
      have hnk : (Lit.string x) ∉ rest.erase (.string x) := fun h => (HM.out.rnd.mem_erase_iff.1 h).1 rfl
      have hlen : (rest.erase (.string x)).length + 1 = rest.length := by
        have := List.length_erase_of_mem hkr
        have := List.length_pos_of_mem hkr
        omega
      obtain ⟨len, hlq⟩ : ∃ len, len = (L x).length := ⟨_, rfl⟩
      rw [← hlq] at hnx hen HC
      have HLQ := Lib.hid hlq
      clear hlq
      unfold encStr at hnx hen
      by_cases h0 : len = 0
      · subst h0
        obtain ⟨w3, hrun3, hm3, hg3⟩ := hm2.del (ty := 0) K Tryz.underlying68 hkey hnk
        unfold encStr at hrun3
        have hli3 : Li bl bm w w3 := hli2.trans (Li.of_grown hg3 (.inl rfl))
        have hr3 : ∀ l, RdY w3 (upd f' (.string x) (.slice none 0 0) (.string l)) (L l) := fun l => by
          by_cases e : l = x
          · subst e
            rw [upd_same, List.length_eq_zero_iff.1 HLQ.out.symm]
            exact RdY.nil _
          · rw [upd_other _ _ (fun h => e (by injection h))]
            exact (hr2 l).other hg3 (fun cur t fz => mv_nocells hm2.mv cur t fz)
        have HR3 := Lib.hid hr3
        have HM3 : Aside _ := hm3
        have HL3 := Lib.hid hli3
        clear hr3 hm3 hli3 hr2 hm2 hli2 hg2 hg3 hkey
        go_wp2_with (go_at_call 61; refine HC.out.mono ?_; rintro e w' ⟨rfl, hw'⟩; rw [hw']; clear hw')
        go_roundg (rest.erase (.string x)).length
        case measure => omega
        case rel =>
          refine ⟨_, _, _, HM3, Nat.le_refl _, HR3, (show Hid _ from fun y hy => ?_), HL3.out⟩
          have hy2 := HM.out.nd.mem_erase_iff.1 hy
          rcases HK.out y hy2.2 with h | h
          · exact .inl (HM.out.rnd.mem_erase_iff.2 ⟨hy2.1, h⟩)
          · exact .inr h
      · have h0b : ((len : Int) == 0) = false := by simp; omega
        rw [h0b] at HC
        have HR2 := Lib.hid hr2
        have HM2 : Aside _ := hm2
        have HL2 := Lib.hid hli2
        have hne : L x ≠ [] := fun e => h0 (by rw [HLQ.out, e]; rfl)
        have HNE := Lib.hid hne
        clear hr2 hm2 hli2 hg2 hkey hne
        go_wp2_with (go_at_call 61; refine HC.out.mono ?_; rintro e w' ⟨rfl, hw'⟩; rw [hw']; clear hw')
        go_roundg (rest.erase (.string x)).length
        case measure => omega
        case rel =>
          refine ⟨_, _, _, HM2, Nat.le_refl _, HR2, (show Hid _ from fun y hy => ?_), HL2.out⟩
          rcases HK.out y hy with h | h
          · by_cases e : y = .string x
            · exact .inr ⟨x, e, HNE.out⟩
            · exact .inl (HM.out.rnd.mem_erase_iff.2 ⟨e, h⟩)
          · exact .inr h
end Go.Proofs.YtackpcohmmlkeaaGreatDoor
end

/- CsL: What an event comes to, plainly; and the teller tells just that, of every event that may be. -/
section
namespace Go.Proofs.YtackpcohmmlkeaaGreatDoor
open Go.RowKit
open Go.Maps (Keyed)
set_option linter.unusedVariables false

/-- What there is: layers, what one cost last. -/
structure Stk where
  lay : List UInt8 → List Lay
  last : List UInt8 → Int
/-- What an event comes to, and what there is then. -/
def oneP (st : Stk) (e : Evt) : Ln × Stk :=
  if e.kind = 1 then (⟨e.id, e.qty * e.price, 0, 0, false⟩, ⟨updL st.lay e.key (st.lay e.key ++ [⟨e.id, e.qty, e.qty * e.price⟩]), updL st.last e.key e.price⟩)
  else if e.kind = 2 then (⟨e.id, e.price - (chargeP (st.lay e.key) e.ofn e.price).1, 0, (chargeP (st.lay e.key) e.ofn e.price).1, false⟩, ⟨updL st.lay e.key (chargeP (st.lay e.key) e.ofn e.price).2, st.last⟩)
  else if e.kind = 3 then (⟨e.id, (takeP (st.lay e.key) e.qty).1, (takeP (st.lay e.key) e.qty).2.1, 0, false⟩, ⟨updL st.lay e.key (takeP (st.lay e.key) e.qty).2.2, st.last⟩)
  else if 0 < e.qty - sumQ (st.lay e.key) then (⟨e.id, (e.qty - sumQ (st.lay e.key)) * st.last e.key, 0, 0, true⟩, ⟨updL st.lay e.key (st.lay e.key ++ [⟨e.id, e.qty - sumQ (st.lay e.key), (e.qty - sumQ (st.lay e.key)) * st.last e.key⟩]), st.last⟩)
  else (⟨e.id, (takeP (st.lay e.key) (-(e.qty - sumQ (st.lay e.key)))).1, 0, 0, false⟩, ⟨updL st.lay e.key (takeP (st.lay e.key) (-(e.qty - sumQ (st.lay e.key)))).2.2, st.last⟩)
/-- What holds behind n events. -/
def Sane (n : Nat) (st : Stk) : Prop := ∀ l, GoodY (n * 100000000000) (st.lay l) ∧ (st.lay l).length ≤ n ∧ 0 ≤ st.last l ∧ st.last l ≤ 1000000
theorem sumV_app (a b : List Lay) : sumV (a ++ b) = sumV a + sumV b := by simp [sumV]
theorem takeP_good {B : Int} (ls : List Lay) : ∀ (n : Int), GoodY B ls → GoodY B (takeP ls n).2.2 ∧ (takeP ls n).2.2.length ≤ ls.length ∧ sumV (takeP ls n).2.2 + (takeP ls n).1 = sumV ls ∧ 0 ≤ (takeP ls n).1 := by
  induction ls generalizing B with
  | nil => intro n h; exact ⟨h, Nat.le_refl _, by simp [takeP], by simp [takeP]⟩
  | cons x r ih =>
    intro n h
    have hx := h.1 x (by simp)
    have hr : ∀ y ∈ r, 1 ≤ y.qty ∧ y.qty ≤ 100000 ∧ 0 ≤ y.val := fun y hy => h.1 y (List.mem_cons_of_mem _ hy)
    have hS := h.2
    rw [sumV_cons] at hS
    rw [takeP]
    by_cases h1 : n ≤ 0
    · rw [if_pos h1]; exact ⟨h, Nat.le_refl _, by simp, by simp⟩
    · rw [if_neg h1]
      by_cases h2 : n < x.qty
      · rw [if_pos h2]
        have hp := part_le x.val n x.qty hx.2.2 hx.1 (by omega) (by omega)
        refine ⟨⟨fun y hy => ?_, ?_⟩, Nat.le_refl _, ?_, hp.1⟩
        · rcases List.mem_cons.1 hy with rfl | hy
          · simp only; omega
          · exact hr y hy
        · simp only [sumV_cons]; omega
        · simp only [sumV_cons]; omega
      · rw [if_neg h2]
        obtain ⟨q1, q2, q3, q4⟩ := ih (n - x.qty) (B := sumV r) ⟨hr, Int.le_refl _⟩
        refine ⟨⟨q1.1, ?_⟩, by simp only [List.length_cons]; omega, ?_, ?_⟩
        · have := sumV_nn q1.1
          simp only; omega
        · simp only [sumV_cons]; omega
        · simp only; omega
theorem chargeP_good {B : Int} (ls : List Lay) (o p : Int) (hp : 0 ≤ p) : GoodY B ls → GoodY (B + p) (chargeP ls o p).2 ∧ (chargeP ls o p).2.length = ls.length := by
  induction ls generalizing B with
  | nil => intro h; exact ⟨⟨h.1, by have := h.2; simp only [chargeP]; omega⟩, rfl⟩
  | cons x r ih =>
    intro h
    have hx := h.1 x (by simp)
    have hr : ∀ y ∈ r, 1 ≤ y.qty ∧ y.qty ≤ 100000 ∧ 0 ≤ y.val := fun y hy => h.1 y (List.mem_cons_of_mem _ hy)
    have hS := h.2
    rw [sumV_cons] at hS
    rw [chargeP]
    by_cases h1 : x.id = o
    · rw [if_pos h1]
      refine ⟨⟨fun y hy => ?_, by simp only [sumV_cons]; omega⟩, rfl⟩
      rcases List.mem_cons.1 hy with rfl | hy
      · simp only; omega
      · exact hr y hy
    · rw [if_neg h1]
      obtain ⟨q1, q2⟩ := ih (B := B - x.val) ⟨hr, by omega⟩
      refine ⟨⟨fun y hy => ?_, by simp only [sumV_cons]; have := q1.2; omega⟩, by simp [q2]⟩
      rcases List.mem_cons.1 hy with rfl | hy
      · exact hx
      · exact q1.1 y hy
theorem GoodY.mono {B B' : Int} {ls : List Lay} (h : GoodY B ls) (hb : B ≤ B') : GoodY B' ls := ⟨h.1, Int.le_trans h.2 hb⟩
theorem GoodY.app {B : Int} {ls : List Lay} (h : GoodY B ls) (x : Lay) (hx : 1 ≤ x.qty ∧ x.qty ≤ 100000 ∧ 0 ≤ x.val) : GoodY (B + x.val) (ls ++ [x]) := by
  refine ⟨fun y hy => ?_, ?_⟩
  · rcases List.mem_append.1 hy with hy | hy
    · exact h.1 y hy
    · rw [List.mem_singleton.1 hy]; exact hx
  · have := h.2
    rw [sumV_app]; simp only [sumV, List.map_cons, List.map_nil, List.sum_cons, List.sum_nil] at this ⊢; omega
theorem mul_bd {a b A B : Int} (h1 : 0 ≤ a) (h2 : a ≤ A) (h3 : 0 ≤ b) (h4 : b ≤ B) : 0 ≤ a * b ∧ a * b ≤ A * B :=
  ⟨Int.mul_nonneg h1 h3, Int.mul_le_mul h2 h4 h3 (by omega)⟩
theorem sane_step {n : Nat} {st : Stk} (h : Sane n st) (e : Evt) (he : e.right = true) : Sane (n + 1) (oneP st e).2 := by
  obtain ⟨-, hk⟩ := right_bd he
  obtain ⟨g1, g2, g3, g4⟩ := h e.key
  have hB : ((n + 1 : Nat) : Int) * 100000000000 = n * 100000000000 + 100000000000 := by rw [Int.natCast_add, Int.add_mul]; rfl
  have hQ : ∀ x ∈ st.lay e.key, 0 ≤ x.qty ∧ x.qty ≤ 100000 := fun x hx => ⟨by have := g1.1 x hx; omega, (g1.1 x hx).2.1⟩
  have hS := sumQ_bd _ hQ
  -- one item's layers, one last price: all others stay
  have go : ∀ (ls : List Lay) (la : List UInt8 → Int), GoodY (((n + 1 : Nat) : Int) * 100000000000) ls → ls.length ≤ n + 1 → (∀ l, 0 ≤ la l ∧ la l ≤ 1000000) → Sane (n + 1) ⟨updL st.lay e.key ls, la⟩ := by
    intro ls la q1 q2 q3 l
    by_cases hl : l = e.key
    · subst hl
      simp only [updL_same]
      exact ⟨q1, q2, (q3 _).1, (q3 _).2⟩
    · simp only [updL_other _ _ hl]
      obtain ⟨a1, a2, a3, a4⟩ := h l
      exact ⟨a1.mono (by omega), by omega, (q3 l).1, (q3 l).2⟩
  have lst : ∀ l, 0 ≤ st.last l ∧ st.last l ≤ 1000000 := fun l => ⟨(h l).2.2.1, (h l).2.2.2⟩
  unfold oneP
  rcases hk with ⟨k, a1, a2, a3, a4, -⟩ | ⟨k, -, a1, a2, -⟩ | ⟨k, a1, a2, -, -⟩ | ⟨k, a1, a2, -, -⟩
  · rw [if_pos k]
    have hm := mul_bd (show 0 ≤ e.qty by omega) a2 a3 a4
    refine go _ _ ((g1.app ⟨e.id, e.qty, e.qty * e.price⟩ ⟨a1, a2, hm.1⟩).mono (by simp only; omega)) (by simp; omega) fun l => ?_
    by_cases hl : l = e.key
    · subst hl; rw [updL_same]; omega
    · rw [updL_other _ _ hl]; exact lst l
  · rw [if_neg (by omega), if_pos k]
    obtain ⟨q1, q2⟩ := chargeP_good (st.lay e.key) e.ofn e.price (by omega) g1
    exact go _ _ (q1.mono (by omega)) (by omega) lst
  · rw [if_neg (by omega), if_neg (by omega), if_pos k]
    obtain ⟨q1, q2, -⟩ := takeP_good (st.lay e.key) e.qty g1
    exact go _ _ (q1.mono (by omega)) (by omega) lst
  · rw [if_neg (by omega), if_neg (by omega), if_neg (by omega)]
    by_cases hm : 0 < e.qty - sumQ (st.lay e.key)
    · rw [if_pos hm]
      have hv := mul_bd (show 0 ≤ e.qty - sumQ (st.lay e.key) by omega) (show e.qty - sumQ (st.lay e.key) ≤ 100000 by omega) g3 g4
      exact go _ _ ((g1.app ⟨e.id, e.qty - sumQ (st.lay e.key), (e.qty - sumQ (st.lay e.key)) * st.last e.key⟩ ⟨by simp only; omega, by simp only; omega, hv.1⟩).mono (by simp only; omega)) (by simp; omega) lst
    · rw [if_neg hm]
      obtain ⟨q1, q2, -⟩ := takeP_good (st.lay e.key) (-(e.qty - sumQ (st.lay e.key))) g1
      exact go _ _ (q1.mono (by omega)) (by omega) lst
set_option maxHeartbeats 1000000 in
/-- The teller tells what an event comes to. -/
theorem one_any (T bl bm c n : Nat) (st : Stk) (e : Evt) (w : World) (h : TW w T bl bm c st.lay st.last) (hs : Sane n st) (hn : n ≤ 199) (hc : c < 99990) (he : e.right = true) :
    Calls Tryz.prog 59 #[.pointer (some ⟨T, 0, none⟩), e.agg] w fun v w' => v = .returned (oneP st e).1.agg ∧ TW w' T bl bm (c + 2) (oneP st e).2.lay (oneP st e).2.last ∧ Li bl bm w w' := by
  obtain ⟨hsz, hk⟩ := right_bd he
  obtain ⟨g1, g2, g3, g4⟩ := hs e.key
  have hsz2 : e.item.size ≤ maxLen := by unfold maxLen; omega
  have g1' : GoodY 20000000000000 (st.lay e.key) := g1.mono (by
    have : (n : Int) ≤ 199 := by omega
    omega)
  obtain ⟨i, s, k, q, p, o, d⟩ := e
  simp only at hk hsz2 g1'
  replace g1' : GoodY 20000000000000 (st.lay s.data.toList) := g1'
  replace g2 : (st.lay s.data.toList).length ≤ n := g2
  replace g3 : 0 ≤ st.last s.data.toList := g3
  replace g4 : st.last s.data.toList ≤ 1000000 := g4
  unfold oneP
  rcases hk with ⟨rfl, a1, a2, a3, a4, -⟩ | ⟨rfl, -, a1, a2, -⟩ | ⟨rfl, a1, a2, -, -⟩ | ⟨rfl, a1, a2, -, -⟩
  · exact one_in T bl bm c st.lay st.last s i q p o d w h hsz2 (by omega) (by omega) g1' (by omega) (by omega)
  · exact (one_charge T bl bm c st.lay st.last s i q p o d w h hsz2 (by omega) (by omega) g1' (by omega)).mono fun v w' ⟨x1, x2, x3⟩ => ⟨x1, x2.mono (by omega), x3⟩
  · exact (one_out T bl bm c st.lay st.last s i q p o d w h hsz2 (by omega) (by omega) g1' (by omega)).mono fun v w' ⟨x1, x2, x3⟩ => ⟨x1, x2.mono (by omega), x3⟩
  · by_cases hm : 0 < q - sumQ (st.lay s.data.toList)
    · simp only [if_pos hm]
      exact (one_more T bl bm c st.lay st.last s i q p o d w h hsz2 (by omega) (by omega) g1' (by omega) ⟨g3, g4⟩ hm).mono fun v w' ⟨x1, x2, x3⟩ => ⟨x1, x2.mono (by omega), x3⟩
    · simp only [if_neg hm]
      exact (one_less T bl bm c st.lay st.last s i q p o d w h hsz2 (by omega) (by omega) g1' (by omega) ⟨g3, g4⟩ hm).mono fun v w' ⟨x1, x2, x3⟩ => ⟨x1, x2.mono (by omega), x3⟩
/-- What events come to, one behind the other. -/
def runP (st : Stk) : List Evt → List Ln × Stk
  | [] => ([], st)
  | e :: es => if e.right then ((oneP st e).1 :: (runP (oneP st e).2 es).1, (runP (oneP st e).2 es).2) else runP st es
def stk0 : Stk := ⟨fun _ => [], fun _ => 0⟩
theorem sane0 : Sane 0 stk0 := fun l => ⟨⟨fun x hx => (by cases hx), by simp [stk0, sumV]⟩, Nat.le_refl _, Int.le_refl _, by show (0 : Int) ≤ 1000000; omega⟩
theorem runP_snoc (es : List Evt) (e : Evt) : ∀ st, runP st (es ++ [e]) = if e.right then ((runP st es).1 ++ [(oneP (runP st es).2 e).1], (oneP (runP st es).2 e).2) else runP st es := by
  induction es with
  | nil => intro st; simp only [List.nil_append, runP]
  | cons x es ih =>
    intro st
    simp only [List.cons_append, runP]
    split
    · rw [ih]; split <;> simp
    · rw [ih]
theorem sane_run (es : List Evt) : ∀ (n : Nat) (st : Stk), Sane n st → Sane (n + es.length) (runP st es).2 := by
  induction es with
  | nil => intro n st h; exact h
  | cons e es ih =>
    intro n st h
    rw [runP]
    split
    · rename_i he
      have := ih (n + 1) _ (sane_step h e he)
      rw [List.length_cons, show n + (es.length + 1) = n + 1 + es.length by omega]
      exact this
    · have := ih n st h
      rw [List.length_cons]
      intro l
      obtain ⟨a, b, c⟩ := this l
      exact ⟨a.mono (by omega), by omega, c⟩
theorem runP_len (es : List Evt) : ∀ st, (runP st es).1.length ≤ es.length := by
  induction es with
  | nil => intro st; simp [runP]
  | cons e es ih =>
    intro st; rw [runP]
    split
    · simp only [List.length_cons]; have := ih (oneP st e).2; omega
    · have := ih st; simp only [List.length_cons]; omega
end Go.Proofs.YtackpcohmmlkeaaGreatDoor
end
