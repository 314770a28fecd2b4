/- The journal, torn and spoilt: plain laws. -/
import Derived.Test.YtmkkoccnnehkeaaDoorCrcF
namespace Go.Proofs.YtmkkoccnnehkeaaDoor.Cr

theorem top_inj : ∀ i j : Fin 256, rem8 i.1 / 16777216 = rem8 j.1 / 16777216 → i = j := by decide +kernel
theorem xor_cancel {a b c : Nat} (h : a ^^^ c = b ^^^ c) : a = b := by
  have : (a ^^^ c) ^^^ c = (b ^^^ c) ^^^ c := by rw [h]
  simpa [Nat.xor_assoc] using this
theorem xor_cancel_left {a b c : Nat} (h : c ^^^ a = c ^^^ b) : a = b := xor_cancel (c := c) (by rw [Nat.xor_comm a, Nat.xor_comm b]; exact h)
theorem sstep_top (c : Nat) (b : UInt8) (h : c < 4294967296) : sstep c b / 16777216 = rem8 ((c % 256) ^^^ b.toNat) / 16777216 := by
  unfold sstep
  rw [show (16777216 : Nat) = 2 ^ 24 from rfl, Nat.xor_div_two_pow, Nat.div_eq_of_lt (show c / 256 < 2 ^ 24 by omega), Nat.zero_xor]
theorem sstep_inj {c c' : Nat} {b b' : UInt8} (h : c < 4294967296) (h' : c' < 4294967296) (e : sstep c b = sstep c' b') : (c % 256) ^^^ b.toNat = (c' % 256) ^^^ b'.toNat ∧ c / 256 = c' / 256 := by
  have t1 := sstep_top c b h
  have t2 := sstep_top c' b' h'
  rw [e, t2] at t1
  have l1 := byte_xor_lt (c % 256) b.toNat (by omega) (UInt8.toNat_lt b)
  have l2 := byte_xor_lt (c' % 256) b'.toNat (by omega) (UInt8.toNat_lt b')
  have hi : (c' % 256) ^^^ b'.toNat = (c % 256) ^^^ b.toNat := by
    have := top_inj ⟨_, l2⟩ ⟨_, l1⟩ t1
    simpa using this
  refine ⟨hi.symm, ?_⟩
  unfold sstep at e
  rw [hi] at e
  exact xor_cancel e
theorem sstep_inj_c {c c' : Nat} {b : UInt8} (h : c < 4294967296) (h' : c' < 4294967296) (e : sstep c b = sstep c' b) : c = c' := by
  obtain ⟨e1, e2⟩ := sstep_inj h h' e
  have := xor_cancel e1
  omega
theorem sstep_inj_b {c : Nat} {b b' : UInt8} (h : c < 4294967296) (e : sstep c b = sstep c b') : b = b' := by
  obtain ⟨e1, _⟩ := sstep_inj h h e
  exact UInt8.toNat_inj.1 (xor_cancel_left e1)
theorem fold_inj (l : List UInt8) : ∀ c c', c < 4294967296 → c' < 4294967296 → l.foldl sstep c = l.foldl sstep c' → c = c' := by
  induction l with
  | nil => intro c c' _ _ h; exact h
  | cons b l ih => intro c c' h h' e; exact sstep_inj_c h h' (ih _ _ (sstep_lt c b h) (sstep_lt c' b h') e)
/-- one byte that is another one: the sum is another one. -/
theorem crc_other {a r : List UInt8} {x y : UInt8} (h : crc (a ++ x :: r) = crc (a ++ y :: r)) : x = y := by
  have h1 := crc0_lt (a ++ x :: r)
  have h2 := crc0_lt (a ++ y :: r)
  have e : crc0 (a ++ x :: r) = crc0 (a ++ y :: r) := by unfold crc at h; rw [ones_val] at h; omega
  unfold crc0 at e
  rw [List.foldl_append, List.foldl_append, List.foldl_cons, List.foldl_cons] at e
  have hc : a.foldl sstep ones < 4294967296 := crc0_lt a
  exact sstep_inj_b hc (fold_inj r _ _ (sstep_lt _ _ hc) (sstep_lt _ _ hc) e)

theorem get_inj {a b : List UInt8} (ha : a.length = 4) (hb : b.length = 4) (h : get a = get b) : a = b := by
  match a, ha, b, hb with
  | [a0, a1, a2, a3], _, [b0, b1, b2, b3], _ =>
    unfold get at h
    simp only [List.getD_cons_zero, List.getD_cons_succ] at h
    have l0 := UInt8.toNat_lt a0
    have l1 := UInt8.toNat_lt a1
    have l2 := UInt8.toNat_lt a2
    have l3 := UInt8.toNat_lt a3
    have m0 := UInt8.toNat_lt b0
    have m1 := UInt8.toNat_lt b1
    have m2 := UInt8.toNat_lt b2
    have m3 := UInt8.toNat_lt b3
    have e0 : a0 = b0 := UInt8.toNat_inj.1 (by omega)
    have e1 : a1 = b1 := UInt8.toNat_inj.1 (by omega)
    have e2 : a2 = b2 := UInt8.toNat_inj.1 (by omega)
    have e3 : a3 = b3 := UInt8.toNat_inj.1 (by omega)
    rw [e0, e1, e2, e3]
theorem get_take (l : List UInt8) (c : Nat) (h : 4 ≤ c) (hl : 4 ≤ l.length) : get (l.take c) = get l := by
  have := get_append (l.take c) (l.drop c) (by simp; omega)
  rw [List.take_append_drop] at this
  exact this.symm

/-! ### lines, one behind the other -/
def frs : Nat → List (List UInt8) → List UInt8
  | _, [] => []
  | n, t :: ts => frame n t ++ frs (n + 1) ts
/-- how many bytes the first k take. -/
def lens (ts : List (List UInt8)) (k : Nat) : Nat := ((ts.take k).map (fun t => 16 + t.length)).sum
theorem lens_zero (ts : List (List UInt8)) : lens ts 0 = 0 := rfl
theorem lens_cons (t : List UInt8) (ts : List (List UInt8)) (k : Nat) : lens (t :: ts) (k + 1) = 16 + t.length + lens ts k := by simp [lens]
theorem lens_succ (ts : List (List UInt8)) (k : Nat) (h : k < ts.length) : lens ts (k + 1) = lens ts k + (16 + (ts.getD k []).length) := by
  unfold lens
  rw [List.take_succ_eq_append_getElem h, List.map_append, List.sum_append]
  simp [List.getD, h]
theorem lens_mono (ts : List (List UInt8)) : ∀ k, k ≤ ts.length → ∀ j, j ≤ k → lens ts j ≤ lens ts k ∧ (j < k → lens ts j < lens ts k)
  | 0, _, j, hj => by obtain rfl : j = 0 := by omega
                      simp
  | k + 1, hk, j, hj => by
    have h1 := lens_succ ts k (by omega)
    by_cases h : j = k + 1
    · subst h; simp
    · have := lens_mono ts k (by omega) j (by omega)
      omega
theorem frs_len (ts : List (List UInt8)) : ∀ n, (frs n ts).length = lens ts ts.length := by
  induction ts with
  | nil => intro n; rfl
  | cons t ts ih => intro n; simp only [frs, List.length_append, frame_len, ih, List.length_cons]; rw [lens_cons]

def small (n : Nat) (ts : List (List UInt8)) : Prop := n + ts.length ≤ 100000 ∧ ∀ t ∈ ts, t.length ≤ 200

theorem one_nil (n : Nat) : one [] n = none := by unfold one; rw [if_pos (by simp)]
theorem one_short {l : List UInt8} {n : Nat} (h : l.length < 16 + get l) : one l n = none := by
  unfold one
  by_cases h1 : l.length < 16
  · rw [if_pos h1]
  · rw [if_neg h1]
    split
    · rfl
    · split
      · rfl
      · split
        · rfl
        · rfl
theorem one_torn (n : Nat) (t r : List UInt8) (c : Nat) (ht : t.length ≤ 200) (hc : c < 16 + t.length) : one ((frame n t ++ r).take c) n = none := by
  by_cases h4 : 4 ≤ c
  · apply one_short
    have e : get ((frame n t ++ r).take c) = t.length := by
      rw [get_take _ c h4 (by rw [List.length_append, frame_len]; omega)]
      have e0 : frame n t ++ r = four t.length ++ (four n ++ (four (crc (head n t)) ++ (t ++ (four (crc (body n t)) ++ r)))) := by simp [frame, body, head]
      rw [e0]
      exact get_four _ (by omega) _
    rw [e]
    simp
    omega
  · unfold one
    rw [if_pos (by simp; omega)]
theorem reads_torn (ts : List (List UInt8)) : ∀ (n c : Nat), small n ts → c ≤ lens ts ts.length →
    ∃ k, k ≤ ts.length ∧ Reads ((frs n ts).take c) n (ts.take k) (lens ts k) ∧ lens ts k ≤ c ∧ (k = ts.length ∨ c < lens ts (k + 1)) := by
  induction ts with
  | nil => intro n c _ hc; exact ⟨0, by simp, by simp only [frs, List.take_nil, lens_zero]; exact Reads.stop (one_nil n), by simp [lens], Or.inl rfl⟩
  | cons t ts ih =>
    intro n c hs hc
    have ht : t.length ≤ 200 := hs.2 t (by simp)
    have hsn := hs.1
    simp only [List.length_cons] at hsn hc
    by_cases h : 16 + t.length ≤ c
    · rw [lens_cons] at hc
      obtain ⟨k, hk, hr, hl, hm⟩ := ih (n + 1) (c - (16 + t.length)) ⟨by omega, fun u hu => hs.2 u (by simp [hu])⟩ (by omega)
      refine ⟨k + 1, by simp; omega, ?_, by rw [lens_cons]; omega, ?_⟩
      · rw [lens_cons, List.take_succ_cons]
        have e : (frs n (t :: ts)).take c = frame n t ++ (frs (n + 1) ts).take (c - (16 + t.length)) := by
          rw [frs, List.take_append, frame_len, List.take_of_length_le (by rw [frame_len]; omega)]
        rw [e]
        refine Reads.go (one_frame n t _ (by omega) ht) ?_
        rw [List.drop_left' (frame_len n t)]
        exact hr
      · rcases hm with hm | hm
        · left; simp; omega
        · right; rw [lens_cons]; omega
    · refine ⟨0, by simp, ?_, by simp [lens], Or.inr (by rw [lens_cons, lens_zero]; omega)⟩
      exact Reads.stop (one_torn n t _ c ht (by omega))
theorem reads_all (ts : List (List UInt8)) (n : Nat) (hs : small n ts) : Reads (frs n ts) n ts (lens ts ts.length) := by
  obtain ⟨k, hk, hr, hl, hm⟩ := reads_torn ts n (lens ts ts.length) hs (Nat.le_refl _)
  have hkk : k = ts.length := by
    rcases hm with h | h
    · exact h
    · apply Classical.byContradiction
      intro hne
      have := (lens_mono ts ts.length (Nat.le_refl _) (k + 1) (by omega)).1
      omega
  subst hkk
  rw [← frs_len ts n, List.take_of_length_le (Nat.le_refl _)] at hr
  rw [List.take_of_length_le (Nat.le_refl _), frs_len] at hr
  exact hr
/-! ### one byte that is another one -/
theorem set_split (l : List UInt8) (p : Nat) (x : UInt8) (hp : p < l.length) : l.set p x = l.take p ++ x :: l.drop (p + 1) ∧ l = l.take p ++ l.getD p 0 :: l.drop (p + 1) := by
  constructor
  · exact List.set_eq_take_append_cons_drop ▸ by rw [if_pos hp]
  · have h1 := List.take_append_drop p l
    have h2 : l.drop p = l.getD p 0 :: l.drop (p + 1) := by rw [List.drop_eq_getElem_cons hp]; simp [List.getD, hp]
    rw [← h2, h1]
theorem crc_set (l : List UInt8) (p : Nat) (x : UInt8) (hp : p < l.length) (hx : x ≠ l.getD p 0) : crc (l.set p x) ≠ crc l := by
  obtain ⟨e1, e2⟩ := set_split l p x hp
  intro h
  rw [e1] at h
  have h2 : crc (l.take p ++ x :: l.drop (p + 1)) = crc (l.take p ++ l.getD p 0 :: l.drop (p + 1)) := by rw [h, ← e2]
  exact hx (crc_other h2)
theorem four_set (u p : Nat) (x : UInt8) (hu : u < 4294967296) (hp : p < 4) (hx : x ≠ (four u).getD p 0) (r : List UInt8) : get ((four u).set p x ++ r) ≠ u := by
  intro h
  rw [get_append _ _ (by simp [four_len])] at h
  have h2 : get (four u) = u := by have := get_four u hu []; simpa using this
  have h3 := get_inj (a := (four u).set p x) (b := four u) (by simp [four_len]) (four_len u) (by rw [h, h2])
  have h4 : ((four u).set p x).getD p 0 = (four u).getD p 0 := by rw [h3]
  simp [List.getD, four_len, hp] at h4
  exact hx (by simpa [List.getD, four_len, hp] using h4)

theorem one_spoilt (n : Nat) (t r : List UInt8) (p : Nat) (x : UInt8) (hn : n < 4294967296) (ht : t.length ≤ 200) (hp : p < 16 + t.length) (hx : x ≠ (frame n t).getD p 0) : one ((frame n t).set p x ++ r) n = none := by
  have hlf := frame_len n t
  have hlh := head_len n t
  have hlb := body_len n t
  have fb : frame n t = body n t ++ four (crc (body n t)) := rfl
  have fh : frame n t = head n t ++ (four (crc (head n t)) ++ (t ++ four (crc (body n t)))) := by simp [frame, body]
  unfold one
  rw [if_neg (by simp [hlf]; omega)]
  by_cases h8 : p < 8
  · rw [if_pos]
    have e : (frame n t).set p x = (head n t).set p x ++ (four (crc (head n t)) ++ (t ++ four (crc (body n t)))) := by rw [fh, List.set_append_left _ _ (by omega)]
    rw [e, List.append_assoc, List.take_left' (by simp [hlh]), List.drop_left' (by simp [hlh]), List.append_assoc, get_four _ (crc_lt _)]
    have hx' : x ≠ (head n t).getD p 0 := by
      rw [fh] at hx
      simpa [List.getD, List.getElem?_append_left (show p < (head n t).length by omega)] using hx
    exact crc_set _ p x (by omega) hx'
  · by_cases h12 : p < 12
    · rw [if_pos]
      have e : (frame n t).set p x = head n t ++ ((four (crc (head n t))).set (p - 8) x ++ (t ++ four (crc (body n t)))) := by
        rw [fh, List.set_append_right _ _ (by omega), hlh, List.set_append_left _ _ (by simp [four_len]; omega)]
      rw [e, List.append_assoc, List.take_left' hlh, List.drop_left' hlh, List.append_assoc]
      have hx' : x ≠ (four (crc (head n t))).getD (p - 8) 0 := by
        rw [fh] at hx
        simp only [List.getD] at hx ⊢
        rw [List.getElem?_append_right (by omega), hlh, List.getElem?_append_left (by simp [four_len]; omega)] at hx
        exact hx
      exact (four_set _ _ x (crc_lt _) (by omega) hx' _).symm
    · -- the head is whole: the length is t's
      have e0 : (frame n t).set p x = (head n t ++ four (crc (head n t))) ++ (t ++ four (crc (body n t))).set (p - 12) x := by
        have fh2 : frame n t = (head n t ++ four (crc (head n t))) ++ (t ++ four (crc (body n t))) := by simp [frame, body]
        rw [fh2, List.set_append_right _ _ (by simp [hlh, four_len]; omega)]
        simp [hlh, four_len]
      have g0 : get ((frame n t).set p x ++ r) = t.length := by
        have e : (frame n t).set p x ++ r = four t.length ++ (four n ++ (four (crc (head n t)) ++ ((t ++ four (crc (body n t))).set (p - 12) x ++ r))) := by rw [e0]; simp [head]
        rw [e]; exact get_four _ (by omega) _
      have g4 : get (((frame n t).set p x ++ r).drop 4) = n := by
        have e : (frame n t).set p x ++ r = four t.length ++ (four n ++ (four (crc (head n t)) ++ ((t ++ four (crc (body n t))).set (p - 12) x ++ r))) := by rw [e0]; simp [head]
        rw [e, List.drop_left' (four_len _)]; exact get_four _ hn _
      have g8 : crc (((frame n t).set p x ++ r).take 8) = get (((frame n t).set p x ++ r).drop 8) := by
        have e : (frame n t).set p x ++ r = head n t ++ (four (crc (head n t)) ++ ((t ++ four (crc (body n t))).set (p - 12) x ++ r)) := by rw [e0]; simp
        rw [e, List.take_left' hlh, List.drop_left' hlh, get_four _ (crc_lt _)]
      rw [if_neg (by rw [g8]; simp), if_neg (by rw [g4]; simp), g0, if_neg (by omega), if_neg (by simp [hlf]), if_pos]
      by_cases hb : p < 12 + t.length
      · have e : (frame n t).set p x ++ r = (body n t).set p x ++ (four (crc (body n t)) ++ r) := by rw [fb, List.set_append_left _ _ (by omega)]; simp
        rw [e, List.take_left' (by simp [hlb]), List.drop_left' (by simp [hlb]), get_four _ (crc_lt _)]
        have hx' : x ≠ (body n t).getD p 0 := by
          rw [fb] at hx
          simp only [List.getD] at hx ⊢
          rw [List.getElem?_append_left (by omega)] at hx
          exact hx
        exact crc_set _ p x (by omega) hx'
      · have e : (frame n t).set p x ++ r = body n t ++ ((four (crc (body n t))).set (p - (12 + t.length)) x ++ r) := by rw [fb, List.set_append_right _ _ (by omega), hlb]; simp
        rw [e, List.take_left' hlb, List.drop_left' hlb]
        have hx' : x ≠ (four (crc (body n t))).getD (p - (12 + t.length)) 0 := by
          rw [fb] at hx
          simp only [List.getD] at hx ⊢
          rw [List.getElem?_append_right (by omega), hlb] at hx
          exact hx
        exact (four_set _ _ x (crc_lt _) (by omega) hx' _).symm

theorem reads_spoilt (ts : List (List UInt8)) : ∀ (n p : Nat) (x : UInt8), small n ts → p < lens ts ts.length → x ≠ (frs n ts).getD p 0 →
    ∃ k m, k < ts.length ∧ Reads ((frs n ts).set p x) n (ts.take k) m ∧ lens ts k ≤ p ∧ p < lens ts (k + 1) := by
  induction ts with
  | nil => intro n p x _ hp _; simp [lens] at hp
  | cons t ts ih =>
    intro n p x hs hp hx
    have ht : t.length ≤ 200 := hs.2 t (by simp)
    have hsn := hs.1
    simp only [List.length_cons] at hsn hp
    rw [lens_cons] at hp
    have hlf := frame_len n t
    by_cases h : p < 16 + t.length
    · refine ⟨0, 0, by simp, ?_, by simp [lens], by rw [lens_cons, lens_zero]; omega⟩
      have e : (frs n (t :: ts)).set p x = (frame n t).set p x ++ frs (n + 1) ts := by rw [frs, List.set_append_left _ _ (by omega)]
      rw [e]
      refine Reads.stop (one_spoilt n t _ p x (by omega) ht h ?_)
      simp only [List.getD, frs] at hx ⊢
      rw [List.getElem?_append_left (by omega)] at hx
      exact hx
    · obtain ⟨k, m, hk, hr, hl, hm⟩ := ih (n + 1) (p - (16 + t.length)) x ⟨by omega, fun u hu => hs.2 u (by simp [hu])⟩ (by omega) (by
        simp only [List.getD, frs] at hx ⊢
        rw [List.getElem?_append_right (by omega), hlf] at hx
        exact hx)
      refine ⟨k + 1, (16 + t.length) + m, by simp; omega, ?_, by rw [lens_cons]; omega, by rw [lens_cons]; omega⟩
      have e : (frs n (t :: ts)).set p x = frame n t ++ (frs (n + 1) ts).set (p - (16 + t.length)) x := by rw [frs, List.set_append_right _ _ (by omega), hlf]
      rw [e, List.take_succ_cons]
      refine Reads.go (one_frame n t _ (by omega) ht) ?_
      rw [List.drop_left' hlf]
      exact hr
end Go.Proofs.YtmkkoccnnehkeaaDoor.Cr
