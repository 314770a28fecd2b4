/- In the end there is one truth, plainly. -/
import Derived.Test.YtpbbbiifeihkaaaDoorBkQ
import Derived.Test.YtpbbbiifeihkaaaDoorEvU
namespace Go.Proofs.YtpbbbiifeihkaaaDoor
open Go.RowKit
set_option linter.unusedVariables false

def evZ : Evt := ⟨0, ⟨#[]⟩, 0, 0, 0, 0, 0⟩
def updE (g : Int → Evt) (k : Int) (e : Evt) : Int → Evt := fun x => if x = k then e else g x
theorem updE_same (g : Int → Evt) (k : Int) (e : Evt) : updE g k e k = e := by simp [updE]
theorem updE_other (g : Int → Evt) {k x : Int} (e : Evt) (h : x ≠ k) : updE g k e x = g x := by simp [updE, h]
/-- What each event was last told to be. -/
def lastE (b : Bk) (g : Int → Evt) (x : ActV) : Int → Evt :=
  if (b.act x).2 = none then (if x.what = 0 then updE g (b.next + 1) (x.e.num (b.next + 1)) else if x.what = 1 then updE g x.id (x.e.num x.id) else updE g x.id evZ) else g
structure TruI (b : Bk) (g : Int → Evt) : Prop where
  a : ∀ v ∈ b.l, v.to = 0 → g v.ev.id = v.ev
  z : ∀ k, 1 ≤ k → k ≤ b.next → g k = evZ ∨ ((g k).id = k ∧ ∃ v ∈ b.l, v.to = 0 ∧ v.ev = g k)
theorem truI0 (g : Int → Evt) : TruI bk0 g := ⟨fun v hv => (by cases hv), fun k h1 h2 => absurd h2 (by simp only [bk0]; omega)⟩
/-- The known ones, where one is known no more. -/
theorem setTo_live {b : Bk} (hI : BkI b) {id : Int} {m : Nat} (hm : b.live id = some m) {t : Int} (ht : t ≠ 0) (l2 : List Ver) (v : Ver) :
    (v ∈ setTo (b.l ++ l2) m t ∧ v.to = 0) ↔ ((v ∈ b.l ∧ v.to = 0 ∧ v.ev.id ≠ id) ∨ (v ∈ l2 ∧ v.to = 0)) := by
  obtain ⟨hml, hlive, hbef⟩ := live_spec hm
  simp only [isLive, Bool.and_eq_true, beq_iff_eq] at hlive
  have hap := List.pairwise_iff_getElem.1 hI.apart
  constructor
  · rintro ⟨hv, h0⟩
    obtain ⟨j, hj, rfl⟩ := List.getElem_of_mem hv
    have hj2 : j < (b.l ++ l2).length := by rw [setTo_len] at hj; exact hj
    rw [setTo_get _ _ _ _ hj2] at h0 ⊢
    split at h0
    · exact absurd h0 ht
    · rename_i hne
      rw [if_neg hne]
      by_cases e : j < b.l.length
      · rw [List.getElem_append_left e] at h0 ⊢
        refine .inl ⟨List.getElem_mem _, h0, fun hid => ?_⟩
        rcases Nat.lt_trichotomy j m with hlt | heq | hgt
        · exact (hap j m e hml hlt (by rw [hlive.1, hid])).1 h0
        · exact hne heq.symm
        · exact (hap m j hml e hgt (by rw [hlive.1, hid])).1 hlive.2
      · rw [List.getElem_append_right (by omega)] at h0 ⊢
        exact .inr ⟨List.getElem_mem _, h0⟩
  · rintro (⟨hv, h0, hid⟩ | ⟨hv, h0⟩)
    · obtain ⟨j, hj, rfl⟩ := List.getElem_of_mem hv
      refine ⟨?_, h0⟩
      have hne : m ≠ j := fun e => hid (by subst e; exact hlive.1)
      have hj2 : j < (b.l ++ l2).length := by rw [List.length_append]; omega
      have hg := setTo_get (b.l ++ l2) m t j hj2
      rw [if_neg hne, List.getElem_append_left hj] at hg
      rw [← hg]
      exact List.getElem_mem _
    · obtain ⟨j, hj, rfl⟩ := List.getElem_of_mem hv
      refine ⟨?_, h0⟩
      have hj2 : b.l.length + j < (b.l ++ l2).length := by rw [List.length_append]; omega
      have hg := setTo_get (b.l ++ l2) m t (b.l.length + j) hj2
      rw [if_neg (by omega), List.getElem_append_right (by omega)] at hg
      simp only [Nat.add_sub_cancel_left] at hg
      rw [← hg]
      exact List.getElem_mem _
theorem TruI.act {b : Bk} {g : Int → Evt} (hI : BkI b) (h : TruI b g) (x : ActV) : TruI (b.act x).1 (lastE b g x) := by
  have hn0 := hI.next0
  have ht0 := hI.turn0
  rcases act_turn b x with ⟨h1, -⟩ | ⟨h1, h2⟩
  · unfold lastE
    rw [if_pos h1]
    unfold Bk.act at h1 ⊢
    by_cases e0 : x.what = 0
    · rw [if_pos e0] at h1 ⊢
      rw [if_pos e0]
      simp only at h1 ⊢
      unfold Bk.post at h1 ⊢
      by_cases hr : x.e.right = true
      · rw [if_pos hr] at h1 ⊢
        by_cases hl : 120 ≤ b.l.length
        · rw [if_pos hl] at h1; exact absurd h1 (by simp)
        · rw [if_neg hl]
          simp only [Bk.write]
          refine ⟨fun v hv h0 => ?_, fun k hk hk2 => ?_⟩
          · rcases List.mem_append.1 hv with hv | hv
            · obtain ⟨-, -, -, -, h5, -⟩ := hI.ok v hv
              rw [updE_other _ _ (by omega)]
              exact h.a v hv h0
            · rw [List.mem_singleton.1 hv]
              exact updE_same _ _ _
          · by_cases e : k = b.next + 1
            · subst e
              rw [updE_same]
              exact .inr ⟨rfl, _, List.mem_append.2 (.inr (List.mem_singleton.2 rfl)), rfl, rfl⟩
            · rw [updE_other _ _ e]
              simp only at hk2
              rcases h.z k hk (by omega) with h3 | ⟨h3, v, hv, h4, h5⟩
              · exact .inl h3
              · exact .inr ⟨h3, v, List.mem_append.2 (.inl hv), h4, h5⟩
      · rw [if_neg hr] at h1; exact absurd h1 (by simp)
    · rw [if_neg e0] at h1 ⊢
      rw [if_neg e0]
      by_cases e1 : x.what = 1
      · rw [if_pos e1] at h1 ⊢
        rw [if_pos e1]
        unfold Bk.correct at h1 ⊢
        cases hm : b.live x.id with
        | none => rw [hm] at h1; exact absurd h1 (by simp)
        | some m =>
          rw [hm] at h1
          simp only at h1 ⊢
          by_cases hr : x.e.right = true
          · rw [if_pos hr] at h1 ⊢
            by_cases hl : 120 ≤ b.l.length
            · rw [if_pos hl] at h1; exact absurd h1 (by simp)
            · rw [if_neg hl]
              simp only [Bk.write]
              have hs := fun v => setTo_live hI hm (t := b.turn + 1) (by omega) [⟨x.e.num x.id, b.turn + 1, 0⟩] v
              refine ⟨fun v hv h0 => ?_, fun k hk hk2 => ?_⟩
              · rcases (hs v).1 ⟨hv, h0⟩ with ⟨k1, k2, k3⟩ | ⟨k1, -⟩
                · rw [updE_other _ _ k3]; exact h.a v k1 k2
                · rw [List.mem_singleton.1 k1]; exact updE_same _ _ _
              · by_cases e : k = x.id
                · subst e
                  rw [updE_same]
                  exact .inr ⟨rfl, _, ((hs _).2 (.inr ⟨List.mem_singleton.2 rfl, rfl⟩)).1, rfl, rfl⟩
                · rw [updE_other _ _ e]
                  rcases h.z k hk hk2 with h3 | ⟨h3, v, hv, h4, h5⟩
                  · exact .inl h3
                  · exact .inr ⟨h3, v, ((hs v).2 (.inl ⟨hv, h4, by rw [h5, h3]; exact e⟩)).1, h4, h5⟩
          · rw [if_neg hr] at h1; exact absurd h1 (by simp)
      · rw [if_neg e1] at h1 ⊢
        rw [if_neg e1]
        by_cases e2 : x.what = 2
        · rw [if_pos e2] at h1 ⊢
          unfold Bk.void at h1 ⊢
          cases hm : b.live x.id with
          | none => rw [hm] at h1; exact absurd h1 (by simp)
          | some m =>
            simp only
            have hs := fun v => setTo_live hI hm (t := b.turn + 1) (by omega) [] v
            simp only [List.append_nil] at hs
            refine ⟨fun v hv h0 => ?_, fun k hk hk2 => ?_⟩
            · rcases (hs v).1 ⟨hv, h0⟩ with ⟨k1, k2, k3⟩ | ⟨k1, -⟩
              · rw [updE_other _ _ k3]; exact h.a v k1 k2
              · exact absurd k1 (by simp)
            · by_cases e : k = x.id
              · subst e
                exact .inl (updE_same _ _ _)
              · rw [updE_other _ _ e]
                rcases h.z k hk hk2 with h3 | ⟨h3, v, hv, h4, h5⟩
                · exact .inl h3
                · exact .inr ⟨h3, v, ((hs v).2 (.inl ⟨hv, h4, by rw [h5, h3]; exact e⟩)).1, h4, h5⟩
        · rw [if_neg e2] at h1; exact absurd h1 (by simp)
  · unfold lastE
    rw [if_neg h1, h2]
    exact h
def keysZ (n : Int) : List Int := (List.range n.toNat).map fun (i : Nat) => (i : Int) + 1
theorem mem_keysZ (n k : Int) : k ∈ keysZ n ↔ 1 ≤ k ∧ k ≤ n := by
  unfold keysZ
  rw [List.mem_map]
  constructor
  · rintro ⟨i, hi, rfl⟩
    have := List.mem_range.1 hi
    omega
  · rintro ⟨h1, h2⟩
    exact ⟨(k - 1).toNat, List.mem_range.2 (by omega), by omega⟩
theorem nodup_keysZ (n : Int) : (keysZ n).Nodup := by
  unfold keysZ List.Nodup
  rw [List.pairwise_map]
  exact List.Pairwise.imp (fun h => by omega) List.nodup_range
theorem keysZ_succ (n : Int) (h : 0 ≤ n) : keysZ (n + 1) = keysZ n ++ [n + 1] := by
  unfold keysZ
  rw [show (n + 1).toNat = n.toNat + 1 by omega, List.range_succ, List.map_append]
  simp
  omega
/-- The known ones in the end, in whichever order their numbers come. -/
theorem truth_last {b : Bk} {g : Int → Evt} (hI : BkI b) (h : TruI b g) (ks : List Int) (hp : ks.Perm (keysZ b.next)) :
    Stb.isort leE ((ks.map g).filter fun e => decide (0 < e.id)) = b.as (-1) ∧ Uniq ((ks.map g).filter fun e => decide (0 < e.id)) := by
  have ht0 := hI.turn0
  have hks : ∀ k ∈ ks, 1 ≤ k ∧ k ≤ b.next := fun k hk => (mem_keysZ _ _).1 (hp.mem_iff.1 hk)
  have hnd : ks.Nodup := List.Nodup.perm (nodup_keysZ _) hp.symm
  have hid : ∀ k ∈ ks, 0 < (g k).id → (g k).id = k := by
    intro k hk h0
    obtain ⟨h1, h2⟩ := hks k hk
    rcases h.z k h1 h2 with h3 | ⟨h3, -⟩
    · rw [h3] at h0; exact absurd h0 (by decide)
    · exact h3
  have hu : Uniq ((ks.map g).filter fun e => decide (0 < e.id)) := by
    unfold Uniq
    rw [List.pairwise_filter, List.pairwise_map]
    refine List.Pairwise.imp_of_mem ?_ hnd
    intro x y hx hy hxy h1 h2
    rw [decide_eq_true_eq] at h1 h2
    rw [hid x hx h1, hid y hy h2]
    exact hxy
  refine ⟨?_, hu⟩
  have e1 : b.at (-1) = b.turn := by unfold Bk.at; rw [if_pos (Or.inl (by omega))]
  unfold Bk.as
  rw [e1]
  have hub := hI.uniq b.turn
  refine isort_same hub ((List.perm_ext_iff_of_nodup ?_ ?_).2 fun e => ?_)
  · exact List.Pairwise.imp (fun h e => h (by rw [e])) hu
  · exact List.Pairwise.imp (fun h e => h (by rw [e])) hub
  · rw [List.mem_filter, List.mem_map, List.mem_map, decide_eq_true_eq]
    constructor
    · rintro ⟨⟨k, hk, rfl⟩, h0⟩
      obtain ⟨h1, h2⟩ := hks k hk
      rcases h.z k h1 h2 with h3 | ⟨h3, v, hv, h4, h5⟩
      · rw [h3] at h0; exact absurd h0 (by decide)
      · obtain ⟨o1, o2, -⟩ := hI.ok v hv
        refine ⟨v, List.mem_filter.2 ⟨hv, ?_⟩, h5⟩
        simp only [knownAt, h4, Bool.and_eq_true, decide_eq_true_eq]
        exact ⟨o2, rfl⟩
    · rintro ⟨v, hv, rfl⟩
      obtain ⟨hv, hk⟩ := List.mem_filter.1 hv
      obtain ⟨o1, o2, o3, o4, o5, -⟩ := hI.ok v hv
      simp only [knownAt, Bool.and_eq_true, Bool.or_eq_true, decide_eq_true_eq, beq_iff_eq] at hk
      have h0 : v.to = 0 := by omega
      have hg := h.a v hv h0
      exact ⟨⟨v.ev.id, hp.mem_iff.2 ((mem_keysZ _ _).2 ⟨o4, o5⟩), hg⟩, by omega⟩
end Go.Proofs.YtpbbbiifeihkaaaDoor
