/- tallymanref.Run's world: the layers it holds, each item's in a row of its own; what one cost last. -/
import Derived.Test.YtpbbbiifeihkaaaGreatDoorCsPa
import Derived.Test.YtpbbbiifeihkaaaGreatDoorRowM
namespace Go.Proofs.YtpbbbiifeihkaaaGreatDoor
open Go.RowKit
open Go.Maps (Keyed)
open Go.WideMaps
set_option linter.unusedVariables false

/-- The layers in the map at bl, each item's in a row of its own; what one cost last in the map at bm. -/
structure QW (w : World) (B bl bm c : Nat) (L : List UInt8 → List Lay) (G : List UInt8 → Int) : Prop where
  ne : bl ≠ bm
  ml : ∃ ks f, MV Tryz.prog 9 (.slice none 0 0) w bl ks f ∧ ks.length ≤ c ∧ (∀ l, w.ownsRow B 96 3 (f (.string l)) (L l).length (flY (L l))) ∧ ∀ l l' g, (f (.string l)).ownBlock = some g → (f (.string l')).ownBlock = some g → l = l'
  mm : ∃ km g, MVI Tryz.prog 9 w bm km g ∧ km.length ≤ c ∧ ∀ l, g (.string l) = G l
section
variable {w w' W : World} {B bl bm c : Nat} {L : List UInt8 → List Lay} {G : List UInt8 → Int}
theorem QW.below (h : QW w B bl bm c L G) (hb : Below w.heap.size w w') : QW w' B bl bm c L G := by
  obtain ⟨ne, ⟨ks, f, m1, m2, m3, m4⟩, ⟨km, g, n1, n2, n3⟩⟩ := h
  exact ⟨ne, ⟨ks, f, m1.below hb, m2, fun l => own_below (m3 l) hb, m4⟩, ⟨km, g, MV.below n1 hb, n2, n3⟩⟩
theorem QW.mono {c' : Nat} (h : QW w B bl bm c L G) (hc : c ≤ c') : QW w B bl bm c' L G := by
  obtain ⟨ne, ⟨ks, f, m1, m2, m3⟩, ⟨km, g, n1, n2, n3⟩⟩ := h
  exact ⟨ne, ⟨ks, f, m1, by omega, m3⟩, ⟨km, g, n1, by omega, n3⟩⟩
theorem QW.no_bl (h : QW w B bl bm c L G) (cur : Array Value) (t : TypeId) (fz : Nat × Nat) : w.heap[bl]? ≠ some (.cells cur t fz) := by
  obtain ⟨ne, ⟨ks, f, m1, -⟩, -⟩ := h
  exact mv_nocells m1 cur t fz
theorem QW.no_bm (h : QW w B bl bm c L G) (cur : Array Value) (t : TypeId) (fz : Nat × Nat) : w.heap[bm]? ≠ some (.cells cur t fz) := by
  obtain ⟨ne, -, ⟨km, g, n1, -⟩⟩ := h
  exact mv_nocells n1 cur t fz
theorem own_at {e size n : Nat} {v : Value} {xs : List Value} {g : Nat} (h : w.ownsRow B e size v n xs) (hg : v.ownBlock = some g) : B ≤ g ∧ g < w.heap.size ∧ ∃ cur, w.heap[g]? = some (.cells cur e (0, 0)) := by
  rcases h.2 with ⟨rfl, -⟩ | ⟨g', cap, cur, rfl, hb, hc, -⟩
  · cases hg
  · have : g' = g := by simpa [Value.ownBlock] using hg
    subst this
    exact ⟨hb, (Array.getElem?_eq_some_iff.1 hc).1, cur, hc⟩
theorem own_base {e size n B' : Nat} {v : Value} {xs : List Value} (h : w.ownsRow B e size v n xs) (hB : B' ≤ B) : w.ownsRow B' e size v n xs := by
  rcases h with ⟨h0, h | ⟨g, cap, cur, hv, hb, r⟩⟩
  · exact ⟨h0, .inl h⟩
  · exact ⟨h0, .inr ⟨g, cap, cur, hv, by omega, r⟩⟩
theorem rdY_of_own {v : Value} {ls : List Lay} (h : w.ownsRow B 96 3 v ls.length (flY ls)) : RdY w v ls := by
  obtain ⟨a, cap, rfl, hr, h1, h2⟩ := rd_of_own h
  refine ⟨a, cap, rfl, h1, h2, ?_, hr, ?_⟩
  · rintro rfl
    rcases h.2 with ⟨h3, -⟩ | ⟨g, cp, cur, h3, -⟩
    · injection h3 with _ _ h3
    · injection h3 with h3; cases h3
  · intro p hp
    subst hp
    rcases h.2 with ⟨h3, -⟩ | ⟨g, cp, cur, h3, hb, hc, -⟩
    · cases h3
    · injection h3 with h3 _ _
      injection h3 with h3
      subst h3
      exact ⟨cur, _, hc⟩
/-- 'r.Layers[item]', in whatever world behind. -/
theorem QW.looks (h : QW w B bl bm c L G) (s : ByteArray) (hs : s.size ≤ maxLen) : ∃ v, RdY w v (L s.data.toList) ∧ ∀ W, Below w.heap.size w W → (Instr.lookup 26 (.map (some bl)) (.string s) false).run Tryz.prog W = .ok v W := by
  obtain ⟨ne, ⟨ks, f, m1, m2, m3, m4⟩, -⟩ := h
  exact ⟨_, rdY_of_own (m3 _), fun W hb => (m1.below hb).get (Go.Maps.string_keyed Tryz.underlying9) Tryz.underlying26 (zero_sl W) (key_bytes s hs)⟩
/-- 'last[item]'. -/
theorem QW.looki (h : QW w B bl bm c L G) (s : ByteArray) (hs : s.size ≤ maxLen) : (Instr.lookup 92 (.map (some bm)) (.string s) false).run Tryz.prog w = .ok (.int .i64 (G s.data.toList)) w := by
  obtain ⟨ne, -, ⟨km, g, n1, n2, n3⟩⟩ := h
  rw [← n3]
  exact MV.get n1 (Go.Maps.string_keyed Tryz.underlying9) Tryz.underlying92 (zero_int2 w) (key_bytes s hs)
/-- 'r.Layers[item] = v': v a new row. -/
theorem QW.set (h : QW w B bl bm c L G) (hb : Below w.heap.size w W) (hB : B ≤ w.heap.size) (s : ByteArray) (hs : s.size ≤ maxLen) (hc : c < maxLen) (v : Value) (ls : List Lay) (hv : W.ownsRow w.heap.size 96 3 v ls.length (flY ls)) :
    ∃ w', (Instr.mapUpdate 26 (.map (some bl)) (.string s) v).run Tryz.prog W = .ok () w' ∧ QW w' B bl bm (c + 1) (updL L s.data.toList ls) G ∧ Li bl bm W w' := by
  have hW := h.below hb
  have b1 := fun cur t fz => hW.no_bl cur t fz
  have b2 := fun cur t fz => hW.no_bm cur t fz
  obtain ⟨ne, ⟨ks, f, m1, m2, m3, m4⟩, ⟨km, g, n1, n2, n3⟩⟩ := h
  obtain ⟨w', hrun, hm, hg⟩ := MV.set (val := v) (m1.below hb) (Go.Maps.string_keyed Tryz.underlying9) Tryz.underlying26 (by omega) (key_bytes s hs)
  have hli : Li bl bm W w' := Li.of_grown hg (.inl rfl)
  have hn1 := MV.kept (MV.below n1 hb) hg (fun e => ne (by cases e; rfl))
  have hold : ∀ l g, (f (.string l)).ownBlock = some g → v.ownBlock ≠ some g := fun l g h1 h2 => by
    have e1 := (own_at (m3 l) h1).2.1
    have e2 := (own_at hv h2).1
    omega
  refine ⟨w', hrun, ⟨ne, ⟨_, _, hm, Nat.le_trans (addK_len _ _) (by omega), fun l => ?_, fun l l' g h1 h2 => ?_⟩, ⟨km, _, hn1, by omega, n3⟩⟩, hli⟩
  · by_cases e : l = s.data.toList
    · subst e
      rw [upd_same, updL_same]
      exact own_li (own_base hv hB) hli b1 b2
    · rw [upd_other _ _ (fun h => e (by injection h)), updL_other _ _ e]
      exact own_li (own_below (m3 l) hb) hli b1 b2
  · by_cases e : l = s.data.toList
    · by_cases e' : l' = s.data.toList
      · rw [e, e']
      · subst e
        rw [upd_same] at h1
        rw [upd_other _ _ (fun h => e' (by injection h))] at h2
        exact absurd h1 (hold _ _ h2)
    · rw [upd_other _ _ (fun h => e (by injection h))] at h1
      by_cases e' : l' = s.data.toList
      · subst e'
        rw [upd_same] at h2
        exact absurd h2 (hold _ _ h1)
      · rw [upd_other _ _ (fun h => e' (by injection h))] at h2
        exact m4 l l' g h1 h2
/-- 'last[item] = n'. -/
theorem QW.seti (h : QW w B bl bm c L G) (s : ByteArray) (hs : s.size ≤ maxLen) (hc : c < maxLen) (n : Int) :
    ∃ w', (Instr.mapUpdate 92 (.map (some bm)) (.string s) (.int .i64 n)).run Tryz.prog w = .ok () w' ∧ QW w' B bl bm (c + 1) L (updL G s.data.toList n) ∧ Li bl bm w w' := by
  have b1 := fun cur t fz => h.no_bl cur t fz
  have b2 := fun cur t fz => h.no_bm cur t fz
  obtain ⟨ne, ⟨ks, f, m1, m2, m3, m4⟩, ⟨km, g, n1, n2, n3⟩⟩ := h
  obtain ⟨w', hrun, hm, hg⟩ := MV.set (val := .int .i64 n) n1 (Go.Maps.string_keyed Tryz.underlying9) Tryz.underlying92 (by omega) (key_bytes s hs)
  have hli : Li bl bm w w' := Li.of_grown hg (.inr rfl)
  have hm1 := MV.kept m1 hg (fun e => ne (by cases e; rfl))
  refine ⟨w', hrun, ⟨ne, ⟨ks, f, hm1, by omega, fun l => own_li (m3 l) hli b1 b2, m4⟩, ⟨_, updI g (.string s.data.toList) n, by unfold MVI; rw [← upd_int]; exact hm, Nat.le_trans (addK_len _ _) (by omega), fun l => ?_⟩⟩, hli⟩
  by_cases e : l = s.data.toList
  · subst e; rw [updI_same, updL_same]
  · rw [updI_other _ _ (fun h => e (by injection h)), updL_other _ _ e, n3]
/-- A turned cell in a block that holds no map and no layers. -/
theorem QW.turn {X : Nat} (h : QW w B bl bm c L G) (hg : w.grownBy w' (some X)) {cur : Array Value} {t : TypeId} {fz : Nat × Nat} (hX : w.heap[X]? = some (.cells cur t fz)) (ht : t ≠ 96) : QW w' B bl bm c L G := by
  have b1 := h.no_bl cur t fz
  have b2 := h.no_bm cur t fz
  obtain ⟨ne, ⟨ks, f, m1, m2, m3, m4⟩, ⟨km, g, n1, n2, n3⟩⟩ := h
  refine ⟨ne, ⟨ks, f, m1.kept hg (fun e => b1 (by injection e with e; rw [e]; exact hX)), m2, fun l => ?_, m4⟩, ⟨km, g, MV.kept n1 hg (fun e => b2 (by injection e with e; rw [e]; exact hX)), n2, n3⟩⟩
  refine (m3 l).kept hg ?_
  cases ho : (f (.string l)).ownBlock with
  | none => exact .inl rfl
  | some g =>
    refine .inr fun e => ?_
    injection e with e
    subst e
    obtain ⟨-, -, cu, hc⟩ := own_at (m3 l) ho
    rw [hc] at hX
    injection hX with hX
    injection hX with _ hX
    exact ht hX.symm
/-- What the run may turn: the two maps and, from B on, the layers' rows. -/
structure Lv (B bl bm : Nat) (w w' : World) : Prop where
  os : w'.os = w.os
  tape : w'.tape = w.tape
  output : w'.output = w.output
  size : w.heap.size ≤ w'.heap.size
  block : ∀ k, k < w.heap.size → k ≠ bl → k ≠ bm → (k < B ∨ ∀ cur fz, w.heap[k]? ≠ some (.cells cur 96 fz)) → w'.heap[k]? = w.heap[k]?
theorem Lv.of_li (h : Li bl bm w w') : Lv B bl bm w w' := ⟨h.os, h.tape, h.output, h.size, fun k hk h1 h2 _ => h.block k hk h1 h2⟩
theorem Lv.of_below (h : Below w.heap.size w w') : Lv B bl bm w w' := ⟨h.os, h.tape, h.output, h.size, fun k hk _ _ _ => h.block k hk⟩
theorem Lv.refl (B bl bm : Nat) (w : World) : Lv B bl bm w w := ⟨rfl, rfl, rfl, Nat.le_refl _, fun _ _ _ _ _ => rfl⟩
theorem Lv.trans (h : Lv B bl bm w w') (h2 : Lv B bl bm w' W) : Lv B bl bm w W :=
  ⟨h2.os.trans h.os, h2.tape.trans h.tape, h2.output.trans h.output, Nat.le_trans h.size h2.size, fun k hk n1 n2 n3 => by
    have e := h.block k hk n1 n2 n3
    exact (h2.block k (Nat.lt_of_lt_of_le hk h.size) n1 n2 (n3.imp id (fun n cur fz => by rw [e]; exact n cur fz))).trans e⟩
theorem Lv.cells (h : Lv B bl bm w w') (hq : QW w B bl bm c L G) {X : Nat} {cur : Array Value} {t : TypeId} {fz : Nat × Nat} (hX : w.heap[X]? = some (.cells cur t fz)) (ht : t ≠ 96) : w'.heap[X]? = some (.cells cur t fz) := by
  rw [h.block X (Array.getElem?_eq_some_iff.1 hX).1 (fun e => hq.no_bl cur t fz (by rw [← e]; exact hX)) (fun e => hq.no_bm cur t fz (by rw [← e]; exact hX)) (.inr (fun cu f e => by rw [hX] at e; injection e with e; injection e with _ e; exact ht e))]
  exact hX
theorem Lv.own (h : Lv B bl bm w w') (hq : QW w B bl bm c L G) {base e size n : Nat} {v : Value} {xs : List Value} (ho : w.ownsRow base e size v n xs) (ht : e ≠ 96) : w'.ownsRow base e size v n xs := by
  refine ⟨ho.1, ?_⟩
  rcases ho.2 with h' | ⟨g, cap, cur, hv, hb, hg, r⟩
  · exact .inl h'
  · exact .inr ⟨g, cap, cur, hv, hb, h.cells hq hg ht, r⟩
/-- A layer's value turns. -/
theorem QW.charge (h : QW w B bl bm c L G) (s : ByteArray) (hs : s.size ≤ maxLen) (k : Nat) (hk : k < (L s.data.toList).length) (z : Int) :
    ∃ g cap, (∀ W, Below w.heap.size w W → (Instr.lookup 26 (.map (some bl)) (.string s) false).run Tryz.prog W = .ok (.slice (some ⟨g, 0, none⟩) (L s.data.toList).length cap) W) ∧ B ≤ g ∧ RdY w (.slice (some ⟨g, 0, none⟩) (L s.data.toList).length cap) (L s.data.toList) ∧ (∃ cur, w.heap[g]? = some (.cells cur 96 (0, 0))) ∧
      QW (w.setCell ⟨g, k * 3 + 2, none⟩ (.int .i64 z)) B bl bm c (updL L s.data.toList ((L s.data.toList).set k ⟨(L s.data.toList)[k].id, (L s.data.toList)[k].qty, z⟩)) G ∧ Lv B bl bm w (w.setCell ⟨g, k * 3 + 2, none⟩ (.int .i64 z)) := by
  have b1 := h.no_bl
  have b2 := h.no_bm
  obtain ⟨ne, ⟨ks, f, m1, m2, m3, m4⟩, ⟨km, gg, n1, n2, n3⟩⟩ := h
  have hm := m3 s.data.toList
  have hlk := fun W hb => (m1.below (w' := W) hb).get (Go.Maps.string_keyed Tryz.underlying9) Tryz.underlying26 (zero_sl W) (key_bytes s hs)
  obtain ⟨hl, hm⟩ := hm
  rcases hm with ⟨h0, h1⟩ | ⟨g, cap, cur, hv, hBg, hc, hn, hmx, hsz, htk⟩
  · omega
  · have hgl : g < w.heap.size := (Array.getElem?_eq_some_iff.1 hc).1
    have hnbl : g ≠ bl := fun e => b1 cur _ _ (by rw [← e]; exact hc)
    have hnbm : g ≠ bm := fun e => b2 cur _ _ (by rw [← e]; exact hc)
    have hgb := gb_set w g (k * 3 + 2) (.int .i64 z)
    have hself := mid_self (o := k * 3 + 2) (.int .i64 z) hc
    refine ⟨g, cap, fun W hb => by rw [← hv]; exact hlk W hb, hBg, by rw [← hv]; exact rdY_of_own (m3 _), ⟨cur, hc⟩, ⟨ne, ⟨ks, f, m1.kept hgb (fun e => hnbl (by injection e with e; exact e.symm)), m2, fun l => ?_, m4⟩, ⟨km, gg, MV.kept n1 hgb (fun e => hnbm (by injection e with e; exact e.symm)), n2, n3⟩⟩, ⟨rfl, rfl, rfl, hgb.size, fun k' hk' q1 q2 q3 => hgb.block k' hk' (fun e => by injection e with e; exact q3.elim (fun h => by omega) (fun h => h cur _ (by rw [e]; exact hc)))⟩⟩
    by_cases e : l = s.data.toList
    · subst e
      rw [updL_same]
      refine ⟨by simp [flY_len], .inr ⟨g, cap, _, by rw [hv]; simp, hBg, hself, by simpa using hn, hmx, by simpa using hsz, ?_⟩⟩
      refine List.ext_getElem? fun j => ?_
      have e1 : (cur.toList.take ((L s.data.toList).length * 3))[j]? = (flY (L s.data.toList))[j]? := by rw [htk]
      simp only [List.length_set]
      by_cases hj : j < (L s.data.toList).length * 3
      · have hi : j / 3 < (L s.data.toList).length := by omega
        have q1 := flY_get ((L s.data.toList).set k ⟨(L s.data.toList)[k].id, (L s.data.toList)[k].qty, z⟩) (j / 3) (by simpa using hi) (j % 3) (Nat.mod_lt _ (by decide))
        have q2 := flY_get (L s.data.toList) (j / 3) hi (j % 3) (Nat.mod_lt _ (by decide))
        rw [show j / 3 * 3 + j % 3 = j by omega] at q1 q2
        rw [q1]
        rw [q2, List.getElem?_take_of_lt hj] at e1
        rw [List.getElem?_take_of_lt hj, Array.getElem?_toList, List.getElem_set]
        rw [Array.getElem?_toList] at e1
        by_cases ek : k = j / 3
        · subst ek
          rw [if_pos rfl]
          by_cases e2 : j % 3 = 2
          · have : j / 3 * 3 + 2 = j := by omega
            rw [this, e2]
            have hjc : j < cur.size := by rw [hsz]; exact Nat.lt_of_lt_of_le hj (Nat.mul_le_mul_right _ hn)
            simp [Lay.cells, hjc]
          · rw [Array.getElem?_setIfInBounds_ne (by omega), e1]
            have : j % 3 = 0 ∨ j % 3 = 1 := by omega
            rcases this with h | h <;> rw [h] <;> rfl
        · rw [if_neg ek, Array.getElem?_setIfInBounds_ne (by omega), e1]
      · rw [List.getElem?_eq_none (by simp; omega), List.getElem?_eq_none (by rw [flY_len]; simp; omega)]
    · rw [updL_other _ _ e]
      refine (m3 l).kept hgb ?_
      cases ho : (f (.string l)).ownBlock with
      | none => exact .inl rfl
      | some g' =>
        refine .inr fun e' => ?_
        injection e' with e'
        subst e'
        exact e (m4 l _ g' ho (by rw [hv]; rfl))
end
end Go.Proofs.YtpbbbiifeihkaaaGreatDoor
