/- Maps that a call makes, whatever their elements: what they hold, key by key. -/
import Derived.Test.YtackpcohmmlkeaaGreatDoorBase
import Derived.Maps.RangeWalk
import Derived.Maps.OwnSet
import Derived.Sort.KeysCollected
namespace Go.Proofs.YtackpcohmmlkeaaGreatDoor
open Go.RowKit
open Go.Maps (Keyed has size Tidy IsMap)

noncomputable instance litDec : DecidableEq Lit := fun _ _ => Classical.propDecidable _
/-- Each element as it stands. -/
def tokR (v : Value) : Option (DataW Value × List MemPlace) := some (.held v, [])

/-- Block b is a map of the keys ks: f at each of them; f is z elsewhere. -/
structure MV (P : Program) (k : TypeId) (z : Value) (w : World) (b : Nat) (ks : List Lit) (f : Lit → Value) : Prop where
  ex : ∃ D : DataW Value, w.ownsMap P k tokR b ks.length D ∧ (∀ kl zd, D.atKey kl zd = if kl ∈ ks then .held (f kl) else zd) ∧ (∀ kl, has D kl = decide (kl ∈ ks)) ∧ size D = ks.length
  nd : ks.Nodup
  zero : ∀ kl, kl ∉ ks → f kl = z

noncomputable def addK (ks : List Lit) (kl : Lit) : List Lit := if kl ∈ ks then ks else ks ++ [kl]
noncomputable def upd (f : Lit → Value) (kl : Lit) (v : Value) : Lit → Value := fun x => if x = kl then v else f x
theorem upd_same (f : Lit → Value) (kl : Lit) (v : Value) : upd f kl v kl = v := by simp [upd]
theorem upd_other (f : Lit → Value) {kl x : Lit} (v : Value) (h : x ≠ kl) : upd f kl v x = f x := by simp [upd, h]
theorem mem_addK (ks : List Lit) (kl x : Lit) : x ∈ addK ks kl ↔ x ∈ ks ∨ x = kl := by
  unfold addK; split
  · rename_i h
    constructor
    · exact Or.inl
    · rintro (h' | rfl)
      · exact h'
      · exact h
  · simp
theorem nodup_addK {ks : List Lit} (h : ks.Nodup) (kl : Lit) : (addK ks kl).Nodup := by
  unfold addK; split
  · exact h
  · rename_i hn
    rw [List.nodup_append]
    exact ⟨h, by simp, fun a ha b hb => by simp at hb; subst hb; exact fun e => hn (e ▸ ha)⟩
theorem addK_len (ks : List Lit) (kl : Lit) : (addK ks kl).length ≤ ks.length + 1 := by unfold addK; split <;> simp

section
variable {P : Program} {k : TypeId} {z : Value} {w : World} {b : Nat} {ks : List Lit} {f : Lit → Value}

theorem own_exact {n : Nat} {D : DataW Value} (h : w.ownsMap P k tokR b n D) : w.ownsMap P k tokR b (size D) D := by
  obtain ⟨es, clock, hb, F, hs, rfl⟩ := h
  exact ⟨es, clock, hb, F, by simp [Maps.size, length_sorted], rfl⟩
theorem MV.made (P : Program) (k : TypeId) (z : Value) (w : World) : MV P k z (w.alloc (.map #[] 0)) w.heap.size [] (fun _ => z) :=
  ⟨⟨.map [], World.ownsMap_made _ _ _ _, fun kl zd => by simp [DataW.atKey], fun kl => by simp [has], rfl⟩, List.nodup_nil, fun _ _ => rfl⟩
theorem MV.lt (h : MV P k z w b ks f) : b < w.heap.size := by obtain ⟨D, ho, _⟩ := h.ex; exact ho.lt
theorem MV.kept {w' : World} {row : Option Nat} (h : MV P k z w b ks f) (hg : w.grownBy w' row) (hne : some b ≠ row) : MV P k z w' b ks f := by
  obtain ⟨D, ho, h1⟩ := h.ex; exact ⟨⟨D, ho.kept hg hne, h1⟩, h.nd, h.zero⟩
theorem MV.alloc (h : MV P k z w b ks f) (o : Obj) : MV P k z (w.alloc o) b ks f := h.kept (World.grownBy_alloc w o none) (by simp)
theorem MV.drew (h : MV P k z w b ks f) : MV P k z w.drew b ks f := by obtain ⟨D, ho, h1⟩ := h.ex; exact ⟨⟨D, ho, h1⟩, h.nd, h.zero⟩
theorem grownBy_below {w w' : World} (h : Below w.heap.size w w') : w.grownBy w' none := ⟨h.os, h.tape, h.output, h.size, fun k hk _ => h.block k hk⟩
theorem MV.below {w' : World} (h : MV P k z w b ks f) (hb : Below w.heap.size w w') : MV P k z w' b ks f := h.kept (grownBy_below hb) (by simp)
theorem MV.setCell (h : MV P k z w b ks f) {a : Addr} (ha : b ≠ a.block) (u : Value) : MV P k z (w.setCell a u) b ks f := by
  obtain ⟨D, ho, h1⟩ := h.ex; exact ⟨⟨D, ho.setCell ha u, h1⟩, h.nd, h.zero⟩
/-- 'm[k]'. -/
theorem MV.get {t e : TypeId} {key : Value} {kl : Lit} (h : MV P k z w b ks f) (K : Keyed P k) (ht : P.underlying t = some (.map k e)) (hz : (zeroValue e).run P w = .ok z w) (hkey : keyOf P k key = some kl) :
    (Instr.lookup t (.map (some b)) key false).run P w = .ok (f kl) w := by
  obtain ⟨D, ho, hat, hh, hs⟩ := h.ex
  obtain ⟨v, ps, hrun, hv⟩ := ho.lookup K ht hz (zd := .held z) (zp := []) rfl hkey
  rw [hrun]
  rw [hat] at hv
  have : v = f kl := by
    simp only [tokR, Option.some.injEq, Prod.mk.injEq] at hv
    split at hv
    · exact (DataW.held.inj hv.1)
    · rename_i hn
      rw [h.zero kl hn]
      exact DataW.held.inj hv.1
  rw [this]
/-- 'v, ok := m[k]'. -/
theorem MV.get_ok {t e : TypeId} {key : Value} {kl : Lit} (h : MV P k z w b ks f) (K : Keyed P k) (ht : P.underlying t = some (.map k e)) (hz : (zeroValue e).run P w = .ok z w) (hkey : keyOf P k key = some kl) :
    (Instr.lookup t (.map (some b)) key true).run P w = .ok (.tuple #[f kl, .bool (decide (kl ∈ ks))]) w := by
  obtain ⟨D, ho, hat, hh, hs⟩ := h.ex
  obtain ⟨v, ps, hrun, hv⟩ := ho.look_ok K ht hz (zd := .held z) (zp := []) rfl hkey
  rw [hrun, hh]
  rw [hat] at hv
  have : v = f kl := by
    simp only [tokR, Option.some.injEq, Prod.mk.injEq] at hv
    split at hv
    · exact (DataW.held.inj hv.1)
    · rename_i hn
      rw [h.zero kl hn]
      exact DataW.held.inj hv.1
  rw [this]
/-- 'm[k] = v'. -/
theorem MV.set {t e : TypeId} {key val : Value} {kl : Lit} (h : MV P k z w b ks f) (K : Keyed P k) (ht : P.underlying t = some (.map k e)) (hn : ks.length < maxLen) (hkey : keyOf P k key = some kl) :
    ∃ w', (Instr.mapUpdate t (.map (some b)) key val).run P w = .ok () w' ∧ MV P k z w' b (addK ks kl) (upd f kl val) ∧ w.grownBy w' (some b) := by
  obtain ⟨D, ho, hat, hh, hs⟩ := h.ex
  obtain ⟨w', hrun, ho', hg⟩ := ho.update K ht hn (d := .held val) (ps := []) hkey rfl
  have hk : WideAt.IsKeyLit kl := K.key hkey
  have hsz : size (D.put kl (.held val)) = (addK ks kl).length := by
    rw [Maps.size_put (ho.tidy K), hh, hs]
    unfold addK
    by_cases hm : kl ∈ ks
    · simp [hm]
    · simp [hm]
  refine ⟨w', hrun, ⟨⟨_, by rw [← hsz]; exact own_exact ho', fun x zd => ?_, fun x => ?_, hsz⟩, nodup_addK h.nd kl, fun x hx => ?_⟩, hg⟩
  · by_cases e : x = kl
    · subst e
      rw [Maps.atKey_put_same ho.isMap hk, if_pos ((mem_addK ks x x).2 (Or.inr rfl)), upd_same]
    · rw [Maps.atKey_put_other e, hat, upd_other _ _ e]
      by_cases hm : x ∈ ks
      · rw [if_pos hm, if_pos ((mem_addK _ _ _).2 (Or.inl hm))]
      · rw [if_neg hm, if_neg (fun h' => by rcases (mem_addK _ _ _).1 h' with h' | h'; exact hm h'; exact e h')]
  · by_cases e : x = kl
    · subst e
      rw [Maps.has_put_same ho.isMap hk]
      exact (decide_eq_true ((mem_addK ks x x).2 (Or.inr rfl))).symm
    · rw [Maps.has_put_other e, hh]
      have : (x ∈ addK ks kl) ↔ x ∈ ks := by rw [mem_addK]; exact ⟨fun h' => h'.resolve_right e, Or.inl⟩
      simp [this]
  · have hx' := (not_congr (mem_addK ks kl x)).1 hx
    rw [upd_other _ _ (fun e => hx' (Or.inr e))]
    exact h.zero x (fun e => hx' (Or.inl e))
/-- 'delete(m, k)'. -/
theorem MV.del {t e ty : TypeId} {key : Value} {kl : Lit} (h : MV P k z w b ks f) (K : Keyed P k) (ht : P.underlying t = some (.map k e)) (hkey : keyOf P k key = some kl) :
    ∃ w', (Builtin.delete_ #[t, k] ty #[.map (some b), key]).run P w = .ok (.tuple #[]) w' ∧ MV P k z w' b (ks.erase kl) (upd f kl z) ∧ w.grownBy w' (some b) := by
  obtain ⟨D, ho, hat, hh, hs⟩ := h.ex
  obtain ⟨w', hrun, ho', hg⟩ := ho.drop K ht hkey ty
  have hsz : size (D.del kl) = (ks.erase kl).length := by
    have := Maps.size_del (k := kl) (ho.tidy K)
    rw [hh, hs] at this
    rw [List.length_erase]
    by_cases hm : kl ∈ ks
    · simp [hm] at this ⊢; omega
    · simp [hm] at this ⊢; omega
  have hmem : ∀ x, x ∈ ks.erase kl ↔ x ∈ ks ∧ x ≠ kl := fun x => by rw [h.nd.mem_erase_iff]; exact And.comm
  refine ⟨w', hrun, ⟨⟨_, by rw [← hsz]; exact own_exact ho', fun x zd => ?_, fun x => ?_, hsz⟩, h.nd.erase kl, fun x hx => ?_⟩, hg.grown⟩
  · by_cases e : x = kl
    · subst e
      rw [Maps.atKey_del_same, if_neg (fun h' => ((hmem _).1 h').2 rfl)]
    · rw [Maps.atKey_del_other e, hat, upd_other _ _ e]
      by_cases hm : x ∈ ks
      · rw [if_pos hm, if_pos ((hmem _).2 ⟨hm, e⟩)]
      · rw [if_neg hm, if_neg (fun h' => hm ((hmem _).1 h').1)]
  · by_cases e : x = kl
    · subst e
      rw [Maps.has_del_same]
      exact (decide_eq_false (fun h' => ((hmem _).1 h').2 rfl)).symm
    · rw [Maps.has_del_other e, hh]
      have : (x ∈ ks.erase kl) ↔ x ∈ ks := by rw [hmem]; exact ⟨fun h' => h'.1, fun h' => ⟨h', e⟩⟩
      simp [this]
  · by_cases e : x = kl
    · subst e; rw [upd_same]
    · rw [upd_other _ _ e]
      exact h.zero x (fun h' => hx ((hmem _).2 ⟨h', e⟩))
/-- 'len(m)'. -/
theorem MV.len {t e : TypeId} (h : MV P k z w b ks f) (ht : P.underlying t = some (.map k e)) (ty : TypeId) : (Builtin.len_ #[t] ty #[.map (some b)]).run P w = .ok (.int .i64 ks.length) w := by
  obtain ⟨D, ho, hat, hh, hs⟩ := h.ex
  rw [ho.len ht ty, hs]

/-! ### Ranging -/
/-- 'for k, v := range m' under way: the keys rest are still to come. -/
structure MR (P : Program) (k : TypeId) (z : Value) (w : World) (b r : Nat) (ks : List Lit) (f : Lit → Value) (rest : List Lit) : Prop where
  ex : ∃ (D : DataW Value) (left : Lit → Bool) (cnt : Nat), w.ranges P k tokR b r ks.length D left cnt ∧ (∀ kl zd, D.atKey kl zd = if kl ∈ ks then .held (f kl) else zd) ∧ (∀ kl, has D kl = decide (kl ∈ ks)) ∧ size D = ks.length ∧ (∀ kl, left kl = decide (kl ∈ rest))
  nd : ks.Nodup
  zero : ∀ kl, kl ∉ ks → f kl = z
  rnd : rest.Nodup
  sub : ∀ x ∈ rest, x ∈ ks
theorem MR.mv {r : Nat} {rest : List Lit} (h : MR P k z w b r ks f rest) : MV P k z w b ks f := by
  obtain ⟨D, left, cnt, hr, hat, hh, hs, hl⟩ := h.ex
  exact ⟨⟨D, hr.owns, hat, hh, hs⟩, h.nd, h.zero⟩
theorem MR.ne {r : Nat} {rest : List Lit} (h : MR P k z w b r ks f rest) : r ≠ b := by obtain ⟨D, left, cnt, hr, _⟩ := h.ex; exact hr.ne
theorem MR.lt {r : Nat} {rest : List Lit} (h : MR P k z w b r ks f rest) : r < w.heap.size := by obtain ⟨D, left, cnt, hr, _⟩ := h.ex; exact hr.lt
theorem MR.kept {r : Nat} {rest : List Lit} {w' : World} {row : Option Nat} (h : MR P k z w b r ks f rest) (hg : w.grownBy w' row) (hb : some b ≠ row) (hr : some r ≠ row) : MR P k z w' b r ks f rest := by
  obtain ⟨D, left, cnt, hrg, h1⟩ := h.ex
  exact ⟨⟨D, left, cnt, hrg.kept hg hb hr, h1⟩, h.nd, h.zero, h.rnd, h.sub⟩
theorem MR.below {r : Nat} {rest : List Lit} {w' : World} (h : MR P k z w b r ks f rest) (hb : Below w.heap.size w w') : MR P k z w' b r ks f rest := h.kept (grownBy_below hb) (by simp) (by simp)
/-- 'range m'. -/
theorem MV.range {t e : TypeId} (h : MV P k z w b ks f) (K : Keyed P k) (ht : P.underlying t = some (.map k e)) :
    ∃ w', (Instr.range t (.map (some b))).run P w = .ok (.pointer (some ⟨w.heap.size, 0, none⟩)) w' ∧ MR P k z w' b w.heap.size ks f ks ∧ Below w.heap.size w w' ∧ w'.heap.size = w.heap.size + 1 := by
  obtain ⟨D, ho, hat, hh, hs⟩ := h.ex
  obtain ⟨w', hrun, hr, hg, hz⟩ := ho.range K ht
  exact ⟨w', hrun, ⟨⟨D, _, _, hr, hat, hh, hs, hh⟩, h.nd, h.zero, h.nd, fun _ hx => hx⟩, ⟨hg.os, hg.tape, hg.output, hg.size, fun j hj => hg.block j hj (by simp)⟩, hz⟩
/-- The next entry. -/
theorem MR.next {r : Nat} {rest : List Lit} (h : MR P k z w b r ks f rest) (K : Keyed P k) (ty : TypeId) :
    (rest = [] ∧ (Instr.next (.pointer (some ⟨r, 0, none⟩)) false ty).run P w = .ok (.tuple #[.bool false]) w) ∨
    ∃ key kl w', keyOf P k key = some kl ∧ kl ∈ rest ∧ (Instr.next (.pointer (some ⟨r, 0, none⟩)) false ty).run P w = .ok (.tuple #[.bool true, key, f kl]) w' ∧ MR P k z w' b r ks f (rest.erase kl) ∧ w.grownBy w' (some r) ∧ w'.heap.size = w.heap.size ∧ w'.rangeLeft b r < w.rangeLeft b r ∧
      (Instr.entry (.pointer (some ⟨r, 0, none⟩))).run P w' = .ok (.tuple #[key, f kl]) w' := by
  obtain ⟨D, left, cnt, hr, hat, hh, hs, hl⟩ := h.ex
  rcases hr.next K ty with ⟨h0, hl0, hrun⟩ | ⟨key, v, kl, y, w', cnt', hkey, hlk, hv, hat', hrun, hrg, hlt, hgr, hsz, hen⟩
  · refine Or.inl ⟨?_, hrun⟩
    cases rest with
    | nil => rfl
    | cons x xs => have := hl x; rw [hl0 x] at this; simp at this
  · have hkr : kl ∈ rest := by have := hl kl; rw [hlk] at this; simpa using this.symm
    have hkk := h.sub kl hkr
    have hvf : v = f kl := by
      have h1 := hat' (.held z)
      rw [hat, if_pos hkk] at h1
      simp only [tokR, Option.some.injEq] at hv
      rw [← hv] at h1
      exact (DataW.held.inj h1).symm
    subst hvf
    refine Or.inr ⟨key, kl, w', hkey, hkr, hrun, ⟨⟨D, _, cnt', hrg, hat, hh, hs, fun x => ?_⟩, h.nd, h.zero, h.rnd.erase kl, fun x hx => h.sub x (List.mem_of_mem_erase hx)⟩, hgr, hsz, by rw [hrg.left_eq, hr.left_eq]; exact hlt, hen⟩
    rw [hl x]
    by_cases e : x = kl
    · subst e
      have : x.sameKey x = true := WideAt.sameKey_self (K.key hkey)
      rw [this]
      simp [h.rnd.mem_erase_iff]
    · rw [Maps.sameKey_ne e]
      simp [h.rnd.mem_erase_iff, e]
end

/-! ### Maps to int -/
/-- Block b is a map to int of the keys ks: g at each of them; g is 0 elsewhere. -/
def MVI (P : Program) (k : TypeId) (w : World) (b : Nat) (ks : List Lit) (g : Lit → Int) : Prop := MV P k (.int .i64 0) w b ks (fun kl => .int .i64 (g kl))
noncomputable def updI (g : Lit → Int) (kl : Lit) (v : Int) : Lit → Int := fun x => if x = kl then v else g x
theorem upd_int (g : Lit → Int) (kl : Lit) (v : Int) : upd (fun x => .int .i64 (g x)) kl (.int .i64 v) = fun x => .int .i64 (updI g kl v x) := by
  funext x; unfold upd updI; split <;> rfl
theorem updI_same (g : Lit → Int) (kl : Lit) (v : Int) : updI g kl v kl = v := by simp [updI]
theorem updI_other (g : Lit → Int) {kl x : Lit} (v : Int) (h : x ≠ kl) : updI g kl v x = g x := by simp [updI, h]
section
variable {P : Program} {w : World} {ops : Array Oper} {rest : List Oper} {o : Oper} {a : Act} {Q : Exit → Act → World → Prop} {k : TypeId} {b : Nat} {ks : List Lit} {g : Lit → Int}
theorem MVI.made (P : Program) (k : TypeId) (w : World) : MVI P k (w.alloc (.map #[] 0)) w.heap.size [] (fun _ => 0) := MV.made P k _ w
theorem wpList_lookup_mvi (h : MVI P k w b ks g) (hg : o.guard = none) (m x : Operand) (t : TypeId) (hop : o.op = Op.lookup t m x false) (e : TypeId) (K : Keyed P k) (ht : P.underlying t = some (.map k e)) (hz : (zeroValue e).run P w = .ok (.int .i64 0) w)
    (hm : a.eval m = .map (some b)) (key : Value) (kl : Lit) (hx : a.eval x = key) (hkey : keyOf P k key = some kl) (hK : wpList P ops Q rest (a.put o.dst (.int .i64 (g kl))) w) : wpList P ops Q (o :: rest) a w := by
  refine wpList_plain hg fun K' hK' => ?_
  have hrun := MV.get h K ht hz hkey
  unfold Oper.wp
  simp [execOp, hop, hm, hx, hrun, Result.andThen]
  exact hK' _ _ hK
theorem wpList_update_mvi (h : MVI P k w b ks g) (hg : o.guard = none) (m x v : Operand) (t : TypeId) (hop : o.op = Op.mapUpdate t m x v) (e : TypeId) (K : Keyed P k) (ht : P.underlying t = some (.map k e)) (hn : ks.length < maxLen)
    (hm : a.eval m = .map (some b)) (key : Value) (kl : Lit) (hx : a.eval x = key) (n : Int) (hv : a.eval v = .int .i64 n) (hkey : keyOf P k key = some kl)
    (hK : ∀ w', MVI P k w' b (addK ks kl) (updI g kl n) → w.grownBy w' (some b) → wpList P ops Q rest (a.put o.dst undef) w') : wpList P ops Q (o :: rest) a w := by
  refine wpList_plain hg fun K' hK' => ?_
  obtain ⟨w', hrun, h1, h2⟩ := MV.set (val := .int .i64 n) h K ht hn hkey
  unfold Oper.wp
  simp [execOp, hop, hm, hx, hv, hrun, Result.andThen]
  exact hK' _ _ (hK w' (by unfold MVI; rw [← upd_int]; exact h1) h2)
end
end Go.Proofs.YtackpcohmmlkeaaGreatDoor
