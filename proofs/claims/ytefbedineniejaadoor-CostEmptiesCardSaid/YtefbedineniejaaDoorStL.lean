/- What the stable sort comes to: the row, sorted stably. -/
import Derived.Test.YtefbedineniejaaDoorStP
namespace Go.Proofs.YtefbedineniejaaDoor
open Go.Sort
namespace Stb
variable {α : Type} [Inhabited α]
def seg (d : Array α) (a b : Nat) : List α := (List.range (b - a)).map fun i => d[a + i]!
theorem seg_nil (d : Array α) (a b : Nat) (h : b ≤ a) : seg d a b = [] := by simp [seg, show b - a = 0 by omega]
theorem seg_one (d : Array α) (a b : Nat) (h : b = a + 1) : seg d a b = [d[a]!] := by subst h; simp [seg, List.range_succ]
theorem seg_split (d : Array α) (a b c : Nat) (h1 : a ≤ b) (h2 : b ≤ c) : seg d a c = seg d a b ++ seg d b c := by
  unfold seg
  rw [show c - a = (b - a) + (c - b) by omega, List.range_add, List.map_append, List.map_map]
  congr 1
  refine List.map_congr_left fun i _ => ?_
  show d[a + (b - a + i)]! = d[b + i]!
  congr 1; omega
theorem seg_eq (d d' : Array α) (a b a' b' : Nat) (h : b' - a' = b - a) (h' : ∀ i, i < b - a → d'[a' + i]! = d[a + i]!) : seg d' a' b' = seg d a b := by
  unfold seg
  rw [h]
  exact List.map_congr_left fun i hi => h' i (List.mem_range.1 hi)
theorem seg_mem {d : Array α} {a b : Nat} {x : α} (h : x ∈ seg d a b) : ∃ t, a ≤ t ∧ t < b ∧ x = d[t]! := by
  obtain ⟨i, hi, rfl⟩ := List.mem_map.1 h
  have := List.mem_range.1 hi
  exact ⟨a + i, by omega, by omega, rfl⟩
theorem seg_length (d : Array α) (a b : Nat) : (seg d a b).length = b - a := by simp [seg]
theorem seg_full (d : Array α) : seg d 0 d.size = d.toList := by
  refine List.ext_getElem (by simp [seg]) fun i h1 h2 => ?_
  have h3 : i < d.size := by simpa using h2
  simp [seg, h3]
variable {le : α → α → Bool}
theorem seg_at {d : Array α} {a b : Nat} (h : Sorted le (seg d a b)) (s t : Nat) (h1 : a ≤ s) (h2 : s < t) (h3 : t < b) : le d[s]! d[t]! = true := by
  have := (List.pairwise_iff_getElem.1 h) (s - a) (t - a) (by rw [seg_length]; omega) (by rw [seg_length]; omega) (by omega)
  simp only [seg, List.getElem_map, List.getElem_range, show a + (s - a) = s by omega, show a + (t - a) = t by omega] at this
  exact this
theorem sorted_part {d : Array α} {a b s e : Nat} (h : Sorted le (seg d a b)) (h1 : a ≤ s) (h2 : s ≤ e) (h3 : e ≤ b) : Sorted le (seg d s e) := by
  rw [seg_split d a s b h1 (by omega), seg_split d s e b h2 h3] at h
  exact (List.pairwise_append.1 (List.pairwise_append.1 h).2.1).1
theorem bs_spec (p : Nat → Bool) : ∀ (i j : Nat), i ≤ j → (∀ s t, i ≤ s → s ≤ t → t < j → p t = true → p s = true) → (∀ t, i ≤ t → t < bs p i j → p t = true) ∧ (∀ t, bs p i j ≤ t → t < j → p t = false) := by
  intro i j
  induction h : j - i using Nat.strongRecOn generalizing i j with
  | ind n ih =>
    intro hij hm
    rw [bs]
    split
    · split
      · rename_i hlt hp
        obtain ⟨q1, q2⟩ := ih (j - ((i + j) / 2 + 1)) (by omega) ((i + j) / 2 + 1) j rfl (by omega) (fun s t h1 h2 h3 => hm s t (by omega) h2 h3)
        refine ⟨fun t h1 h2 => ?_, q2⟩
        by_cases c : (i + j) / 2 + 1 ≤ t
        · exact q1 t c h2
        · exact hm t ((i + j) / 2) h1 (by omega) (by omega) hp
      · rename_i hlt hp
        obtain ⟨q1, q2⟩ := ih ((i + j) / 2 - i) (by omega) i ((i + j) / 2) rfl (by omega) (fun s t h1 h2 h3 => hm s t h1 h2 (by omega))
        refine ⟨q1, fun t h1 h2 => ?_⟩
        by_cases c : t < (i + j) / 2
        · exact q2 t h1 c
        · cases hpt : p t with
          | false => rfl
          | true => exact absurd (hm ((i + j) / 2) t (by omega) (by omega) h2 hpt) hp
    · exact ⟨fun t h1 h2 => absurd h2 (by omega), fun t h1 h2 => absurd h2 (by omega)⟩
omit [Inhabited α] in
theorem one_mrg (x : α) (U V : List α) (h1 : ∀ u ∈ U, le x u = false) (h2 : ∀ v ∈ V, le x v = true) : mrg le [x] (U ++ V) = U ++ x :: V := by
  have := mrg_split le [] [x] U V (by simp) (fun u hu y hy => by rw [List.mem_singleton.1 hy]; exact h1 u hu)
  rw [List.nil_append, nil_mrg] at this
  rw [this]
  have h := mrg_split le [x] [] [] V (fun y hy v hv => by rw [List.mem_singleton.1 hy]; exact h2 v hv) (by simp)
  simp only [List.append_nil, List.nil_append, nil_mrg, mrg_nil] at h
  rw [h]; simp
variable {lt : α → α → Bool}
/-- The order that goes with 'less'. -/
def leOf (lt : α → α → Bool) (x y : α) : Bool := !lt y x
/-- symMerge's parting: what is found. -/
theorem symS_spec (R : Trans (leOf lt)) (d : Array α) (a m b : Nat) (h1 : a < m) (h2 : m < b) (s1 : Sorted (leOf lt) (seg d a m)) (s2 : Sorted (leOf lt) (seg d m b)) :
    (∀ x ∈ seg d a (symS lt d a m b), ∀ y ∈ seg d ((a + b) / 2 + m - symS lt d a m b) b, leOf lt x y = true) ∧ (∀ y ∈ seg d m ((a + b) / 2 + m - symS lt d a m b), ∀ x ∈ seg d (symS lt d a m b) m, leOf lt x y = false) := by
  have hb := symS_bd lt d a m b h1 h2
  have refl : ∀ s t, a ≤ s → s ≤ t → t < m → ∀ z, leOf lt d[t]! z = true → leOf lt d[s]! z = true := fun s t h1 h2 h3 z hz => by
    by_cases e : s = t
    · rw [e]; exact hz
    · exact R _ _ _ (seg_at s1 s t h1 (by omega) h3) hz
  have refl2 : ∀ s t, m ≤ s → s ≤ t → t < b → ∀ z, leOf lt z d[s]! = true → leOf lt z d[t]! = true := fun s t h1 h2 h3 z hz => by
    by_cases e : s = t
    · rw [← e]; exact hz
    · exact R _ _ _ hz (seg_at s2 s t h1 (by omega) h3)
  have key : (∀ t, (if (a + b) / 2 < m then (a + b) / 2 + m - b else a) ≤ t → t < symS lt d a m b → leOf lt d[t]! d[(a + b) / 2 + m - 1 - t]! = true) ∧ (∀ t, symS lt d a m b ≤ t → t < (if (a + b) / 2 < m then (a + b) / 2 else m) → leOf lt d[t]! d[(a + b) / 2 + m - 1 - t]! = false) := by
    unfold symS
    refine bs_spec (fun c => !lt d[(a + b) / 2 + m - 1 - c]! d[c]!) _ _ (by split <;> omega) ?_
    intro s t q1 q2 q3 q4
    have q5 : a ≤ s ∧ t < m ∧ m ≤ (a + b) / 2 + m - 1 - t ∧ (a + b) / 2 + m - 1 - s < b := by split at q1 <;> split at q3 <;> omega
    exact refl s t q5.1 q2 q5.2.1 _ (refl2 ((a + b) / 2 + m - 1 - t) ((a + b) / 2 + m - 1 - s) q5.2.2.1 (by omega) q5.2.2.2 _ q4)
  generalize symS lt d a m b = s at hb key ⊢
  obtain ⟨k1, k2⟩ := key
  constructor
  · intro x hx y hy
    obtain ⟨t, t1, t2, rfl⟩ := seg_mem hx
    obtain ⟨u, u1, u2, rfl⟩ := seg_mem hy
    have lo : (if (a + b) / 2 < m then (a + b) / 2 + m - b else a) ≤ s - 1 := by split <;> omega
    have := k1 (s - 1) lo (by omega)
    exact refl t (s - 1) t1 (by omega) (by omega) _ (refl2 ((a + b) / 2 + m - 1 - (s - 1)) u (by omega) (by omega) u2 _ this)
  · intro y hy x hx
    obtain ⟨t, t1, t2, rfl⟩ := seg_mem hx
    obtain ⟨u, u1, u2, rfl⟩ := seg_mem hy
    have hi : s < (if (a + b) / 2 < m then (a + b) / 2 else m) := by split <;> omega
    have := k2 s (by omega) hi
    cases hq : leOf lt d[t]! d[u]! with
    | false => rfl
    | true =>
      have q := refl s t (by omega) t1 t2 _ (refl2 u ((a + b) / 2 + m - 1 - s) u1 (by omega) (by omega) _ hq)
      rw [q] at this; cases this
theorem sym_law (R : Trans (leOf lt)) : ∀ (f : Nat) (d : Array α) (a m b : Nat), a < m → m < b → b ≤ d.size → b - a ≤ f → Sorted (leOf lt) (seg d a m) → Sorted (leOf lt) (seg d m b) →
    seg (sym lt f d a m b) a b = mrg (leOf lt) (seg d a m) (seg d m b) ∧ ∀ t, t < a ∨ b ≤ t → (sym lt f d a m b)[t]! = d[t]! := by
  intro f
  induction f with
  | zero => intro d a m b h1 h2 h3 h4; omega
  | succ f ih =>
    intro d a m b h1 h2 h3 h4 s1 s2
    unfold sym
    by_cases c1 : m - a = 1
    · rw [if_pos c1]
      have hm : m = a + 1 := by omega
      have hbl := bs_le (fun h => lt d[h]! d[a]!) m b (by omega)
      have hbs := bs_spec (fun h => lt d[h]! d[a]!) m b (by omega) (fun s t q1 q2 q3 q4 => by
        by_cases e : s = t
        · rw [e]; exact q4
        · cases hq : lt d[s]! d[a]! with
          | true => rfl
          | false =>
            have : leOf lt d[a]! d[t]! = true := R _ _ _ (show leOf lt d[a]! d[s]! = true by rw [leOf, hq]; rfl) (seg_at s2 s t q1 (by omega) q3)
            rw [leOf, q4] at this; cases this)
      generalize bs (fun h => lt d[h]! d[a]!) m b = i at hbl hbs ⊢
      have g := upRun_get (i - 1) a d (by omega) (by omega)
      refine ⟨?_, fun t ht => by rw [g, if_neg (by omega), if_neg (by omega)]⟩
      rw [seg_one d a m hm, seg_split d m i b hbl.1 hbl.2, one_mrg _ _ _ (fun u hu => by
          obtain ⟨t, t1, t2, rfl⟩ := seg_mem hu
          rw [leOf, hbs.1 t t1 t2]; rfl) (fun v hv => by
          obtain ⟨t, t1, t2, rfl⟩ := seg_mem hv
          rw [leOf, hbs.2 t t1 t2]; rfl)]
      rw [seg_split _ a (i - 1) b (by omega) (by omega), seg_split _ (i - 1) i b (by omega) hbl.2, seg_one _ (i - 1) i (by omega)]
      rw [g, if_neg (by omega), if_pos rfl]
      rw [seg_eq d (upRun d a (i - 1)) m i a (i - 1) (by omega) (fun t ht => by rw [g, if_pos (by omega)]; congr 1; omega)]
      rw [seg_eq d (upRun d a (i - 1)) i b i b rfl (fun t ht => by rw [g, if_neg (by omega), if_neg (by omega)])]
      simp
    · rw [if_neg c1]
      by_cases c2 : b - m = 1
      · rw [if_pos c2]
        have hm : b = m + 1 := by omega
        have hbl := bs_le (fun h => !lt d[m]! d[h]!) a m (by omega)
        have hbs := bs_spec (fun h => !lt d[m]! d[h]!) a m (by omega) (fun s t q1 q2 q3 q4 => by
          by_cases e : s = t
          · rw [e]; exact q4
          · exact R d[s]! d[t]! d[m]! (seg_at s1 s t q1 (by omega) q3) q4)
        generalize bs (fun h => !lt d[m]! d[h]!) a m = i at hbl hbs ⊢
        have g := downRun_get i m d hbl.2 (by omega)
        refine ⟨?_, fun t ht => by rw [g, if_neg (by omega), if_neg (by omega)]⟩
        rw [seg_one d m b hm, mrg_one (seg d a m) d[m]! (seg d a i) (seg d i m) (seg_split d a i m hbl.1 hbl.2) (fun u hu => by
            obtain ⟨t, t1, t2, rfl⟩ := seg_mem hu
            exact hbs.1 t t1 t2) (fun v hv => by
            obtain ⟨t, t1, t2, rfl⟩ := seg_mem hv
            exact hbs.2 t t1 t2)]
        rw [seg_split _ a i b hbl.1 (by omega), seg_split _ i (i + 1) b (by omega) (by omega), seg_one _ i (i + 1) rfl]
        rw [g i, if_neg (by omega), if_pos rfl]
        rw [seg_eq d (downRun d m i) a i a i rfl (fun t ht => by rw [g, if_neg (by omega), if_neg (by omega)])]
        rw [seg_eq d (downRun d m i) i m (i + 1) b (by omega) (fun t ht => by rw [g, if_pos (by omega)]; congr 1; omega)]
        simp
      · rw [if_neg c2]
        simp only []
        have hb := symS_bd lt d a m b h1 h2
        obtain ⟨p1, p2⟩ := symS_spec R d a m b h1 h2 s1 s2
        generalize symS lt d a m b = s at hb p1 p2 ⊢
        generalize hmid : (a + b) / 2 = mid at hb p1 p2 ⊢
        obtain ⟨e, he⟩ : ∃ e, e = mid + m - s := ⟨_, rfl⟩
        rw [← he] at p1 p2 ⊢
        have z1 : (symR d s m e).size = d.size := symR_size _ _ _ _
        -- the row behind the turning
        have g : ∀ t, (symR d s m e)[t]! = if s ≤ t ∧ t < e then (if t < mid then d[t + (m - s)]! else d[t - (e - m)]!) else d[t]! := by
          intro t
          unfold symR
          by_cases c : s < m ∧ m < e
          · rw [if_pos c, rot_get _ m (m - s) (e - m) d (Nat.le_refl _) (by omega) (by omega) (by omega) (by omega)]
            (repeat' split) <;> first | rfl | (exfalso; omega) | (congr 1; omega)
          · rw [if_neg c]
            (repeat' split) <;> first | rfl | (exfalso; omega) | (congr 1; omega)
        have b1 : seg (symR d s m e) a s = seg d a s := seg_eq _ _ _ _ _ _ rfl fun t ht => by rw [g, if_neg (by omega)]
        have b2 : seg (symR d s m e) s mid = seg d m e := seg_eq _ _ _ _ _ _ (by omega) fun t ht => by rw [g, if_pos (by omega), if_pos (by omega)]; congr 1; omega
        have b3 : seg (symR d s m e) mid e = seg d s m := seg_eq _ _ _ _ _ _ (by omega) fun t ht => by rw [g, if_pos (by omega), if_neg (by omega)]; congr 1; omega
        have b4 : seg (symR d s m e) e b = seg d e b := seg_eq _ _ _ _ _ _ rfl fun t ht => by rw [g, if_neg (by omega)]
        have out : ∀ t, t < a ∨ b ≤ t → (symR d s m e)[t]! = d[t]! := fun t ht => by rw [g, if_neg (by omega)]
        generalize symR d s m e = d1 at z1 b1 b2 b3 b4 out ⊢
        have S1 := sorted_part s1 (Nat.le_refl a) (show a ≤ s by omega) (show s ≤ m by omega)
        have S2 := sorted_part s2 (Nat.le_refl m) (show m ≤ e by omega) (show e ≤ b by omega)
        have S3 := sorted_part s1 (show a ≤ s by omega) (show s ≤ m by omega) (Nat.le_refl m)
        have S4 := sorted_part s2 (show m ≤ e by omega) (show e ≤ b by omega) (Nat.le_refl b)
        -- the first half
        obtain ⟨d2, hd2⟩ : ∃ d2, d2 = (if a < s ∧ s < mid then sym lt f d1 a s mid else d1) := ⟨_, rfl⟩
        have f1 : d2.size = d1.size ∧ seg d2 a mid = mrg (leOf lt) (seg d a s) (seg d m e) ∧ ∀ t, t < a ∨ mid ≤ t → d2[t]! = d1[t]! := by
          rw [hd2]
          by_cases c : a < s ∧ s < mid
          · rw [if_pos c]
            have := ih d1 a s mid c.1 c.2 (by omega) (by omega) (by rw [b1]; exact S1) (by rw [b2]; exact S2)
            rw [b1, b2] at this
            exact ⟨sym_size _ _ _ _ _ _, this.1, this.2⟩
          · rw [if_neg c]
            refine ⟨rfl, ?_, fun _ _ => rfl⟩
            rw [seg_split d1 a s mid (by omega) (by omega), b1, b2]
            by_cases c3 : a < s
            · rw [seg_nil d m e (by omega), mrg_nil]; simp
            · rw [seg_nil d a s (by omega), nil_mrg]; simp
        rw [← hd2]
        obtain ⟨f1, f2, f3⟩ := f1
        have q3 : seg d2 mid e = seg d s m := by rw [← b3]; exact seg_eq _ _ _ _ _ _ rfl fun t ht => f3 _ (by omega)
        have q4 : seg d2 e b = seg d e b := by rw [← b4]; exact seg_eq _ _ _ _ _ _ rfl fun t ht => f3 _ (by omega)
        clear hd2 b1 b2 b3 b4
        obtain ⟨d3, hd3⟩ : ∃ d3, d3 = (if mid < e ∧ e < b then sym lt f d2 mid e b else d2) := ⟨_, rfl⟩
        have k : seg d3 mid b = mrg (leOf lt) (seg d s m) (seg d e b) ∧ ∀ t, t < mid ∨ b ≤ t → d3[t]! = d2[t]! := by
          rw [hd3]
          by_cases c : mid < e ∧ e < b
          · rw [if_pos c]
            have := ih d2 mid e b c.1 c.2 (by omega) (by omega) (by rw [q3]; exact S3) (by rw [q4]; exact S4)
            rw [q3, q4] at this
            exact this
          · rw [if_neg c]
            refine ⟨?_, fun _ _ => rfl⟩
            rw [seg_split d2 mid e b (by omega) (by omega), q3, q4]
            by_cases c3 : mid < e
            · rw [seg_nil d e b (by omega), mrg_nil]; simp
            · rw [seg_nil d s m (by omega), nil_mrg]; simp
        rw [← hd3]
        refine ⟨?_, fun t ht => by rw [k.2 t (by omega), f3 t (by omega), out t ht]⟩
        rw [seg_split d3 a mid b (by omega) (by omega), k.1, show seg d3 a mid = seg d2 a mid from seg_eq _ _ _ _ _ _ rfl fun t ht => k.2 _ (by omega), f2]
        rw [seg_split d a s m (by omega) (by omega), seg_split d m e b (by omega) (by omega), mrg_split _ _ _ _ _ p1 p2]
end Stb
end Go.Proofs.YtefbedineniejaaDoor
