/- maps.DeleteFunc over the teller's layers: what is left are the keys of which something is left. -/
import Derived.Test.YtefbedineniejaaDoorCsJ
import Derived.Maps.RangeWalk
namespace Go.Proofs.YtefbedineniejaaDoor
open Go.RowKit
open Go.Maps (Keyed has size Tidy IsMap)
open Go.WideMaps
open Go.Proofs (encStr)
set_option linter.unusedVariables false

section
variable {P : Program} {k : TypeId} {z : Value} {w : World} {b : Nat} {ks : List Lit} {f : Lit → Value}
/-- 'for k, v := range m' under way, from which entries are struck on the way: the keys rest are still to come. -/
structure MD (P : Program) (k : TypeId) (z : Value) (w : World) (b r : Nat) (ks : List Lit) (f : Lit → Value) (rest : List Lit) : Prop where
  ex : ∃ (n : Nat) (D : DataW Value) (left : Lit → Bool) (cnt : Nat), w.ranges P k tokR b r n D left cnt ∧ (∀ kl zd, D.atKey kl zd = if kl ∈ ks then .held (f kl) else zd) ∧ (∀ kl, has D kl = decide (kl ∈ ks)) ∧ size D = ks.length ∧ (∀ kl, left kl = decide (kl ∈ rest))
  nd : ks.Nodup
  zero : ∀ kl, kl ∉ ks → f kl = z
  rnd : rest.Nodup
  sub : ∀ x ∈ rest, x ∈ ks
theorem MD.of {r : Nat} {rest : List Lit} (h : MR P k z w b r ks f rest) : MD P k z w b r ks f rest := by
  obtain ⟨D, left, cnt, h1⟩ := h.ex
  exact ⟨⟨_, D, left, cnt, h1⟩, h.nd, h.zero, h.rnd, h.sub⟩
theorem MD.mv {r : Nat} {rest : List Lit} (h : MD P k z w b r ks f rest) : MV P k z w b ks f := by
  obtain ⟨n, D, left, cnt, hr, hat, hh, hs, hl⟩ := h.ex
  exact ⟨⟨D, by rw [← hs]; exact own_exact hr.owns, hat, hh, hs⟩, h.nd, h.zero⟩
theorem MD.ne {r : Nat} {rest : List Lit} (h : MD P k z w b r ks f rest) : r ≠ b := by obtain ⟨n, D, left, cnt, hr, _⟩ := h.ex; exact hr.ne
theorem MD.lt {r : Nat} {rest : List Lit} (h : MD P k z w b r ks f rest) : r < w.heap.size := by obtain ⟨n, D, left, cnt, hr, _⟩ := h.ex; exact hr.lt
theorem MD.next {r : Nat} {rest : List Lit} (h : MD P k z w b r ks f rest) (K : Keyed P k) (ty : TypeId) :
    (rest = [] ∧ (Instr.next (.pointer (some ⟨r, 0, none⟩)) false ty).run P w = .ok (.tuple #[.bool false]) w) ∨
    ∃ key kl w', keyOf P k key = some kl ∧ kl ∈ rest ∧ (Instr.next (.pointer (some ⟨r, 0, none⟩)) false ty).run P w = .ok (.tuple #[.bool true, key, f kl]) w' ∧ MD P k z w' b r ks f (rest.erase kl) ∧ w.grownBy w' (some r) ∧ w'.heap.size = w.heap.size ∧
      (Instr.entry (.pointer (some ⟨r, 0, none⟩))).run P w' = .ok (.tuple #[key, f kl]) w' := by
  obtain ⟨n, D, left, cnt, hr, hat, hh, hs, hl⟩ := h.ex
  rcases hr.next K ty with ⟨h0, hl0, hrun⟩ | ⟨key, v, kl, y, w', cnt', hkey, hlk, hv, hat', hrun, hrg, hlt, hgr, hsz, hen⟩
  · refine Or.inl ⟨?_, hrun⟩
    cases rest with
    | nil => rfl
    | cons x xs => have := hl x; rw [hl0 x] at this; simp at this
  · have hkr : kl ∈ rest := by have := hl kl; rw [hlk] at this; simpa using this.symm
    have hkk := h.sub kl hkr
    have hvf : v = f kl := by
      have h1 := hat' (.held z)
      rw [hat, if_pos hkk] at h1
      simp only [tokR, Option.some.injEq] at hv
      rw [← hv] at h1
      exact (DataW.held.inj h1).symm
    subst hvf
    refine Or.inr ⟨key, kl, w', hkey, hkr, hrun, ⟨⟨n, D, _, cnt', hrg, hat, hh, hs, fun x => ?_⟩, h.nd, h.zero, h.rnd.erase kl, fun x hx => h.sub x (List.mem_of_mem_erase hx)⟩, hgr, hsz, hen⟩
    rw [hl x]
    by_cases e : x = kl
    · subst e
      have : x.sameKey x = true := WideAt.sameKey_self (K.key hkey)
      rw [this]
      simp [h.rnd.mem_erase_iff]
    · rw [Maps.sameKey_ne e]
      simp [h.rnd.mem_erase_iff, e]
/-- 'delete(m, k)', of an entry that has come. -/
theorem MD.del {r : Nat} {rest : List Lit} {t e ty : TypeId} {key : Value} {kl : Lit} (h : MD P k z w b r ks f rest) (K : Keyed P k) (ht : P.underlying t = some (.map k e)) (hkey : keyOf P k key = some kl) (hk : kl ∉ rest) :
    ∃ w', (Builtin.delete_ #[t, k] ty #[.map (some b), key]).run P w = .ok (.tuple #[]) w' ∧ MD P k z w' b r (ks.erase kl) (upd f kl z) rest ∧ w.grownBy w' (some b) := by
  obtain ⟨n, D, left, cnt, hr, hat, hh, hs, hl⟩ := h.ex
  obtain ⟨w', cnt', hrun, hrg, hle, ht'⟩ := hr.drop K ht hkey ty
  have hsz : size (D.del kl) = (ks.erase kl).length := by
    have := Maps.size_del (k := kl) (hr.owns.tidy K)
    rw [hh, hs] at this
    rw [List.length_erase]
    by_cases hm : kl ∈ ks
    · simp [hm] at this ⊢; omega
    · simp [hm] at this ⊢; omega
  have hmem : ∀ x, x ∈ ks.erase kl ↔ x ∈ ks ∧ x ≠ kl := fun x => by rw [h.nd.mem_erase_iff]; exact And.comm
  refine ⟨w', hrun, ⟨⟨n, _, _, cnt', hrg, fun x zd => ?_, fun x => ?_, hsz, fun x => ?_⟩, h.nd.erase kl, fun x hx => ?_, h.rnd, fun x hx => (hmem x).2 ⟨h.sub x hx, fun e => hk (by rw [← e]; exact hx)⟩⟩, ht'.grown⟩
  · by_cases e : x = kl
    · subst e
      rw [Maps.atKey_del_same, if_neg (fun h' => ((hmem _).1 h').2 rfl)]
    · rw [Maps.atKey_del_other e, hat, upd_other _ _ e]
      by_cases hm : x ∈ ks
      · rw [if_pos hm, if_pos ((hmem _).2 ⟨hm, e⟩)]
      · rw [if_neg hm, if_neg (fun h' => hm ((hmem _).1 h').1)]
  · by_cases e : x = kl
    · subst e
      rw [Maps.has_del_same]
      exact (decide_eq_false (fun h' => ((hmem _).1 h').2 rfl)).symm
    · rw [Maps.has_del_other e, hh]
      have : (x ∈ ks.erase kl) ↔ x ∈ ks := by rw [hmem]; exact ⟨fun h' => h'.1, fun h' => ⟨h', e⟩⟩
      simp [this]
  · rw [hl x]
    by_cases e : x = kl
    · subst e
      simp [hk]
    · rw [Maps.sameKey_ne e]; simp
  · by_cases e : x = kl
    · subst e; rw [upd_same]
    · rw [upd_other _ _ e]
      exact h.zero x (fun h' => hx ((hmem _).2 ⟨h', e⟩))
theorem MD.nocells {r : Nat} {rest : List Lit} (h : MD P k z w b r ks f rest) (cur : Array Value) (t : TypeId) (fz : Nat × Nat) : w.heap[r]? ≠ some (.cells cur t fz) := by
  obtain ⟨n, D, left, cnt, hr, _⟩ := h.ex
  obtain ⟨o, ho, hw⟩ := hr.iter_walk
  rw [ho]; intro e; cases e; cases hw
end
theorem RdY.other {w w' : World} {v : Value} {ls : List Lay} (h : RdY w v ls) {X : Nat} (hg : w.grownBy w' (some X)) (hX : ∀ cur t fz, w.heap[X]? ≠ some (.cells cur t fz)) : RdY w' v ls := by
  obtain ⟨a, c, e1, e2, e3, e4, e5, e6⟩ := h
  have same : ∀ p, a = some p → w'.heap[p.block]? = w.heap[p.block]? := fun p hp => by
    obtain ⟨cu, f, hc⟩ := e6 p hp
    exact hg.block _ (Array.getElem?_eq_some_iff.1 hc).1 (fun e => by cases e; exact hX cu _ f hc)
  refine ⟨a, c, e1, e2, e3, e4, fun j hj => ?_, fun p hp => ?_⟩
  · obtain ⟨b, off, hb, hc⟩ := e5 j hj
    refine ⟨b, off, hb, ?_⟩
    rw [← hc]
    exact World.cell?_of_block (show w'.heap[b]? = w.heap[b]? from same _ hb)
  · obtain ⟨cu, f, hc⟩ := e6 p hp
    exact ⟨cu, f, (same _ hp).trans hc⟩

theorem run1_any (key : Value) (a : Option Addr) (n c : Nat) (w : World) : Calls Tryd.prog 53 #[key, .slice a n c] w fun e w' => e = .returned (.bool ((n : Int) == 0)) ∧ w' = w := by
  go_enter Tryd.func53, Tryd.ntmps53
  go_wp2
  go_ret
  exact ⟨by simp, rfl⟩
/-- What is left when the empty ones are struck. -/
def Kept (w' : World) (bl : Nat) (L : List UInt8 → List Lay) : Prop := ∃ ks f, MV Tryd.prog 9 (.slice none 0 0) w' bl ks f ∧ (∀ l, RdY w' (f (.string l)) (L l)) ∧ ∀ x ∈ ks, ∃ l, x = .string l ∧ L l ≠ []
set_option maxHeartbeats 4000000 in
set_option maxRecDepth 100000 in
theorem deleteFunc_any (T bl bm c : Nat) (L : List UInt8 → List Lay) (G : List UInt8 → Int) (w : World) (h : TW w T bl bm c L G) :
    Calls Tryd.prog 52 #[.map (some bl), .func (.func 53) #[] #[]] w fun e w' => e = .returned (.tuple #[]) ∧ Kept w' bl L ∧ Li bl bm w w' := by
  obtain ⟨t0, t1, ne, ⟨ks, f, m1, m2, m3⟩, -⟩ := h
  have K := Go.Maps.string_keyed (P := Tryd.prog) Tryd.underlying9
  obtain ⟨w1, hrun, hmr, hb1, hz1⟩ := m1.range K Tryd.underlying41
  have hb1' : Li bl bm w w1 := Li.of_below hb1
  have hbl : bl < w.heap.size := m1.lt
  have HS : Hid (∀ l, RdY w1 (f (.string l)) (L l)) := fun l => (m3 l).below hb1
  have HM := MD.of hmr
  obtain ⟨r, hr⟩ : ∃ r, r = w.heap.size := ⟨_, rfl⟩
  rw [← hr] at hrun HM
  have hrl : w.heap.size ≤ r := by omega
  clear hmr hr m1 m2 m3 t0 t1 hb1 hz1
  go_enter Tryd.func52, Tryd.ntmps52
  go_wp2
  go_loopg [8] ks.length (fun kx _ wr => ∃ (ks' rest : List Lit) (f' : Lit → Value), Aside (MD Tryd.prog 9 (.slice none 0 0) wr bl r ks' f' rest) ∧ rest.length ≤ kx ∧ Hid (∀ l, RdY wr (f' (.string l)) (L l)) ∧ Hid (∀ x ∈ ks', x ∈ rest ∨ ∃ l, x = .string l ∧ L l ≠ []) ∧ Li bl bm w wr)
  case atStart => exact ⟨ks, ks, f, HM, Nat.le_refl _, HS, fun x hx => .inl hx, hb1'⟩
  case round =>
    clear HM HS hb1'
    obtain ⟨ks', rest, f', HM, hkx, HS, HK, hli⟩ := hrel
    rcases HM.out.next K 0 with ⟨rfl, hnx⟩ | ⟨key, kl, w2, hkey, hkr, hnx, hm2, hg2, hz2, hen⟩
    · go_wp2
      go_end0
      exact ⟨rfl, ⟨ks', f', HM.out.mv, HS.out, fun x hx => (HK.out x hx).resolve_left (by simp)⟩, hli⟩
    · obtain ⟨x, rfl, rfl, -⟩ := Maps.keyOf_str Tryd.underlying9 hkey
      have hr2 : ∀ l, RdY w2 (f' (.string l)) (L l) := fun l => (HS.out l).other hg2 (fun cur t fz => HM.out.nocells cur t fz)
      have hli2 : Li bl bm w w2 := hli.turn hg2 hrl
      have hx := HS.out x
      obtain ⟨a, cc, hv, -⟩ := hx
      rw [hv] at hnx hen
      have HC := Lib.hid (run1_any (.string ⟨x.toArray⟩) a (L x).length cc w2)
      have hnk : (Lit.string x) ∉ rest.erase (.string x) := fun h => (HM.out.rnd.mem_erase_iff.1 h).1 rfl
      have hlen : (rest.erase (.string x)).length + 1 = rest.length := by
        have := List.length_erase_of_mem hkr
        have := List.length_pos_of_mem hkr
        omega
      obtain ⟨len, hlq⟩ : ∃ len, len = (L x).length := ⟨_, rfl⟩
      rw [← hlq] at hnx hen HC
      have HLQ := Lib.hid hlq
      clear hlq
      unfold encStr at hnx hen
      by_cases h0 : len = 0
      · subst h0
        obtain ⟨w3, hrun3, hm3, hg3⟩ := hm2.del (ty := 0) K Tryd.underlying41 hkey hnk
        unfold encStr at hrun3
        have hli3 : Li bl bm w w3 := hli2.trans (Li.of_grown hg3 (.inl rfl))
        have hr3 : ∀ l, RdY w3 (upd f' (.string x) (.slice none 0 0) (.string l)) (L l) := fun l => by
          by_cases e : l = x
          · subst e
            rw [upd_same, List.length_eq_zero_iff.1 HLQ.out.symm]
            exact RdY.nil _
          · rw [upd_other _ _ (fun h => e (by injection h))]
            exact (hr2 l).other hg3 (fun cur t fz => mv_nocells hm2.mv cur t fz)
        have HR3 := Lib.hid hr3
        have HM3 : Aside _ := hm3
        have HL3 := Lib.hid hli3
        clear hr3 hm3 hli3 hr2 hm2 hli2 hg2 hg3 hkey
        go_wp2_with (go_at_call 53; refine HC.out.mono ?_; rintro e w' ⟨rfl, hw'⟩; rw [hw']; clear hw')
        go_roundg (rest.erase (.string x)).length
        case measure => omega
        case rel =>
          refine ⟨_, _, _, HM3, Nat.le_refl _, HR3, (show Hid _ from fun y hy => ?_), HL3.out⟩
          have hy2 := HM.out.nd.mem_erase_iff.1 hy
          rcases HK.out y hy2.2 with h | h
          · exact .inl (HM.out.rnd.mem_erase_iff.2 ⟨hy2.1, h⟩)
          · exact .inr h
      · have h0b : ((len : Int) == 0) = false := by simp; omega
        rw [h0b] at HC
        have HR2 := Lib.hid hr2
        have HM2 : Aside _ := hm2
        have HL2 := Lib.hid hli2
        have hne : L x ≠ [] := fun e => h0 (by rw [HLQ.out, e]; rfl)
        have HNE := Lib.hid hne
        clear hr2 hm2 hli2 hg2 hkey hne
        go_wp2_with (go_at_call 53; refine HC.out.mono ?_; rintro e w' ⟨rfl, hw'⟩; rw [hw']; clear hw')
        go_roundg (rest.erase (.string x)).length
        case measure => omega
        case rel =>
          refine ⟨_, _, _, HM2, Nat.le_refl _, HR2, (show Hid _ from fun y hy => ?_), HL2.out⟩
          rcases HK.out y hy with h | h
          · by_cases e : y = .string x
            · exact .inr ⟨x, e, HNE.out⟩
            · exact .inl (HM.out.rnd.mem_erase_iff.2 ⟨e, h⟩)
          · exact .inr h
end Go.Proofs.YtefbedineniejaaDoor
