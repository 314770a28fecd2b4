/- Events as text: a text's pieces, and which event it is: plain laws. -/
import Derived.Test.YtjmeefmofbpbnaaGreatDoorJoined8
namespace Go.Proofs.YtjmeefmofbpbnaaGreatDoor.Ev

theorem ofNat_no (d : Nat) (h : d < 10) (c : UInt8) (hc : c.toNat < 45) : c ≠ UInt8.ofNat (48 + d) := by
  intro e
  have := congrArg UInt8.toNat e
  rw [UInt8.toNat_ofNat'] at this
  omega
theorem dec_no (u : Nat) (c : UInt8) (hc : c.toNat < 45) : c ∉ Lib.decDigits u := fun h => by
  have := Nm.dec_ge u c h
  omega
theorem pr_no (U : Nat) (c : UInt8) (hc : c.toNat < 45) : c ∉ Mn.pr U := by
  unfold Mn.pr
  simp only [List.mem_append, List.mem_cons, List.not_mem_nil, or_false, not_or]
  refine ⟨dec_no _ c hc, ?_, ofNat_no _ (by omega) c hc, ofNat_no _ (by omega) c hc⟩
  intro e; subst e; simp at hc
theorem prt_no (n : Int) (c : UInt8) (hc : c.toNat < 45) : c ∉ Mn.prt n := by
  unfold Mn.prt
  split
  · simp only [List.mem_cons, not_or]
    refine ⟨?_, pr_no _ c hc⟩
    intro e; subst e; simp at hc
  · exact pr_no _ c hc
theorem day_no {d : Int} {l : List UInt8} (h : Dy.Text d l) (c : UInt8) (hc : c.toNat < 45) : c ∉ l := by
  obtain ⟨y, D, m, hi, rfl⟩ := h
  have h1 := hi.1
  have hl := Dy.len_pos y m (by have := h1.2.2.1; omega) (by have := h1.2.2.2.1; omega)
  obtain ⟨b1, b2, b3, b4, b5, b6⟩ := h1
  simp only [Int.toNat_natCast] at b6
  have e45 : c ≠ 45 := fun e => by subst e; simp at hc
  simp only [Dy.txt, Dy.four4, Dy.two2, Dy.dg, List.mem_append, List.mem_cons, List.not_mem_nil, or_false, not_or]
  refine ⟨⟨⟨⟨⟨?_, ?_, ?_, ?_⟩, e45⟩, ?_, ?_⟩, e45⟩, ?_, ?_⟩ <;> exact ofNat_no _ (by omega) c hc
theorem name_no {s : List UInt8} (h : NameP s) : (32 : UInt8) ∉ s := fun hm => by
  have := h.2.2.2 32 hm
  revert this
  decide
theorem word_no (k : Int) : (32 : UInt8) ∉ word k := by
  unfold word
  split
  · decide
  · split
    · decide
    · split <;> decide
theorem day_uniq {a b : Int} {l : List UInt8} (h : Dy.Text a l) (h' : Dy.Text b l) : a = b := by
  obtain ⟨Y, m, D, hi, h1, h2, h3⟩ := Dy.text_back h
  obtain ⟨Y', m', D', hi', h1', h2', h3'⟩ := Dy.text_back h'
  rw [h1] at h1'
  rw [h2] at h2'
  rw [h3] at h3'
  injection h1' with e1
  injection h2' with e2
  injection h3' with e3
  rw [← hi.2, ← hi'.2, e1, e2, e3]

def tailP (k q p o : Int) : List (List UInt8) := if k = 1 then [Lib.itoa q, [97, 116], Mn.prt p] else if k = 2 then [Mn.prt p, [102, 111, 114], Lib.itoa o] else [Lib.itoa q]
theorem jn_tail (dl w s : List UInt8) (k q p o : Int) : Sp.jn 32 (dl :: w :: s :: tailP k q p o) = dl ++ [32] ++ w ++ [32] ++ s ++ [32] ++ tail k q p o := by
  unfold tailP tail
  split
  · simp [Sp.jn]
  · split <;> simp [Sp.jn]
theorem text_spl {s : List UInt8} {k q p o d : Int} {l : List UInt8} (hs : (32 : UInt8) ∉ s) (h : Text s k q p o d l) : ∃ dl, Dy.Text d dl ∧ Sp.spl 32 l = dl :: word k :: s :: tailP k q p o := by
  obtain ⟨dl, hd, rfl⟩ := h
  refine ⟨dl, hd, ?_⟩
  rw [← jn_tail]
  refine Sp.spl_jn (by simp) ?_
  intro x hx
  simp only [List.mem_cons] at hx
  rcases hx with rfl | rfl | rfl | hx
  · exact day_no hd 32 (by decide)
  · exact word_no k
  · exact hs
  · unfold tailP at hx
    split at hx
    · simp only [List.mem_cons, List.not_mem_nil, or_false] at hx
      rcases hx with rfl | rfl | rfl
      · exact Nm.itoa_no _ 32 (by decide)
      · decide
      · exact prt_no _ 32 (by decide)
    · split at hx
      · simp only [List.mem_cons, List.not_mem_nil, or_false] at hx
        rcases hx with rfl | rfl | rfl
        · exact prt_no _ 32 (by decide)
        · decide
        · exact Nm.itoa_no _ 32 (by decide)
      · simp only [List.mem_cons, List.not_mem_nil, or_false] at hx
        subst hx
        exact Nm.itoa_no _ 32 (by decide)
theorem text_of_spl {s : List UInt8} {k q p o d : Int} {l dl : List UInt8} (hd : Dy.Text d dl) (e : Sp.spl 32 l = dl :: word k :: s :: tailP k q p o) : Text s k q p o d l := by
  refine ⟨dl, hd, ?_⟩
  rw [← jn_tail, ← e, Sp.jn_spl]

/-- What the pieces say: the kind, the number's text, the amount's. -/
def shape : List (List UInt8) → Option (Int × List UInt8 × Option (List UInt8))
  | [_, w, _, a] => if w = [111, 117, 116] then some (3, a, none) else if w = [99, 111, 117, 110, 116] then some (4, a, none) else none
  | [_, w, _, a, t, b] => if w = [105, 110] ∧ t = [97, 116] then some (1, a, some b) else if w = [99, 104, 97, 114, 103, 101] ∧ t = [102, 111, 114] then some (2, b, some a) else none
  | _ => none
theorem shape_in (z0 z2 a b : List UInt8) : shape [z0, [105, 110], z2, a, [97, 116], b] = some (1, a, some b) := by simp [shape]
theorem shape_charge (z0 z2 a b : List UInt8) : shape [z0, [99, 104, 97, 114, 103, 101], z2, a, [102, 111, 114], b] = some (2, b, some a) := by simp [shape]
theorem shape_out (z0 z2 a : List UInt8) : shape [z0, [111, 117, 116], z2, a] = some (3, a, none) := by simp [shape]
theorem shape_count (z0 z2 a : List UInt8) : shape [z0, [99, 111, 117, 110, 116], z2, a] = some (4, a, none) := by simp [shape]
theorem shape_inv {L : List (List UInt8)} {k : Int} {a : List UInt8} {mo : Option (List UInt8)} (h : shape L = some (k, a, mo)) : ∃ z0 z2,
    (k = 1 ∧ ∃ b, mo = some b ∧ L = [z0, [105, 110], z2, a, [97, 116], b]) ∨ (k = 2 ∧ ∃ b, mo = some b ∧ L = [z0, [99, 104, 97, 114, 103, 101], z2, b, [102, 111, 114], a]) ∨
    (k = 3 ∧ mo = none ∧ L = [z0, [111, 117, 116], z2, a]) ∨ (k = 4 ∧ mo = none ∧ L = [z0, [99, 111, 117, 110, 116], z2, a]) := by
  match L, h with
  | [z0, w, z2, b], h =>
    simp only [shape] at h
    split at h
    · rename_i e
      injection h with h; injection h with h1 h2; injection h2 with h2 h3
      subst h1 h2 h3 e
      exact ⟨z0, z2, Or.inr (Or.inr (Or.inl ⟨rfl, rfl, rfl⟩))⟩
    · split at h
      · rename_i e
        injection h with h; injection h with h1 h2; injection h2 with h2 h3
        subst h1 h2 h3 e
        exact ⟨z0, z2, Or.inr (Or.inr (Or.inr ⟨rfl, rfl, rfl⟩))⟩
      · cases h
  | [z0, w, z2, b, t, c], h =>
    simp only [shape] at h
    split at h
    · rename_i e
      obtain ⟨e1, e2⟩ := e
      injection h with h; injection h with h1 h2; injection h2 with h2 h3
      subst h1 h2 h3 e1 e2
      exact ⟨z0, z2, Or.inl ⟨rfl, _, rfl, rfl⟩⟩
    · split at h
      · rename_i e
        obtain ⟨e1, e2⟩ := e
        injection h with h; injection h with h1 h2; injection h2 with h2 h3
        subst h1 h2 h3 e1 e2
        exact ⟨z0, z2, Or.inr (Or.inl ⟨rfl, _, rfl, rfl⟩)⟩
      · cases h

/-- The text is this event's (whose number, of which it tells, an int holds). -/
def Reads (l s : List UInt8) (k q p o d : Int) : Prop := RightP s k q p o d ∧ o ≤ 9223372036854775807 ∧ Text s k q p o d l
def ReadsNo (l : List UInt8) : Prop := ∀ s k q p o d, ¬ Reads l s k q p o d

theorem right_kind {s : List UInt8} {k q p o d : Int} (h : RightP s k q p o d) : k = 1 ∨ k = 2 ∨ k = 3 ∨ k = 4 := by
  obtain ⟨-, -, -, h⟩ := h
  omega
theorem reads_shape {l s : List UInt8} {k q p o d : Int} (h : Reads l s k q p o d) : ∃ dl r, Dy.Text d dl ∧ Sp.spl 32 l = dl :: word k :: s :: r ∧ r ≠ [] ∧
    shape (Sp.spl 32 l) = some (k, Lib.itoa (if k = 2 then o else q), if k ≤ 2 then some (Mn.prt p) else none) := by
  obtain ⟨hr, -, ht⟩ := h
  obtain ⟨dl, hd, e⟩ := text_spl (name_no hr.1) ht
  refine ⟨dl, _, hd, e, ?_, ?_⟩
  · unfold tailP
    split
    · simp
    · split <;> simp
  · rw [e]
    rcases right_kind hr with rfl | rfl | rfl | rfl
    · exact shape_in _ _ _ _
    · exact shape_charge _ _ _ _
    · exact shape_out _ _ _
    · exact shape_count _ _ _
theorem no_len {l : List UInt8} (h : (Sp.spl 32 l).length < 4) : ReadsNo l := fun s k q p o d hr => by
  obtain ⟨dl, r, -, e, hr, -⟩ := reads_shape hr
  rw [e] at h
  cases r with
  | nil => exact hr rfl
  | cons _ _ => simp at h; omega
theorem no_day {l z0 : List UInt8} {r : List (List UInt8)} (hL : Sp.spl 32 l = z0 :: r) (h : ∀ n, 0 ≤ n → n ≤ 99999 → ¬ Dy.Text n z0) : ReadsNo l := fun s k q p o d hr => by
  obtain ⟨dl, r', hd, e, -, -⟩ := reads_shape hr
  rw [hL] at e
  injection e with e _
  subst e
  exact h d hr.1.2.1 hr.1.2.2.1 hd
theorem no_shape {l : List UInt8} (h : shape (Sp.spl 32 l) = none) : ReadsNo l := fun s k q p o d hr => by
  obtain ⟨dl, r, -, -, -, e⟩ := reads_shape hr
  rw [h] at e
  cases e
theorem num_bd {s : List UInt8} {k q p o d : Int} (h : RightP s k q p o d) (ho : o ≤ 9223372036854775807) : -9223372036854775808 ≤ (if k = 2 then o else q) ∧ (if k = 2 then o else q) ≤ 9223372036854775807 := by
  obtain ⟨-, -, -, h⟩ := h
  split <;> omega
theorem no_num {l a : List UInt8} {k : Int} {mo : Option (List UInt8)} (h : shape (Sp.spl 32 l) = some (k, a, mo)) (hn : Nm.No a) : ReadsNo l := fun s k' q p o d hr => by
  obtain ⟨dl, r, -, -, -, e⟩ := reads_shape hr
  rw [h] at e
  injection e with e; injection e with e1 e2; injection e2 with e2 e3
  have := num_bd hr.1 hr.2.1
  exact hn _ ⟨this.1, this.2, e2.symm⟩
theorem mon_bd {s : List UInt8} {k q p o d : Int} (h : RightP s k q p o d) : 0 ≤ p ∧ p ≤ 100000000000 := by
  obtain ⟨-, -, -, h⟩ := h
  omega
theorem no_mon {l a m : List UInt8} {k : Int} (h : shape (Sp.spl 32 l) = some (k, a, some m)) (hn : Mn.parse m = none) : ReadsNo l := fun s k' q p o d hr => by
  obtain ⟨dl, r, -, -, -, e⟩ := reads_shape hr
  rw [h] at e
  injection e with e; injection e with e1 e2; injection e2 with e2 e3
  have hb := mon_bd hr.1
  have hp := Mn.parse_prt p (by omega) (by omega)
  split at e3
  · injection e3 with e3
    rw [← e3, hn] at hp
    cases hp
  · cases e3
/-- What is read off the pieces. -/
theorem reads_fin {l z0 w z2 a : List UInt8} {r : List (List UInt8)} {k v p d : Int} {mo : Option (List UInt8)} (h : shape (Sp.spl 32 l) = some (k, a, mo)) (hL : Sp.spl 32 l = z0 :: w :: z2 :: r) (hd : Dy.Text d z0)
    (hv : Nm.Is a v) (hm : (∃ m, mo = some m ∧ Mn.parse m = some p) ∨ (mo = none ∧ p = 0)) (hR : RightP z2 k (if k = 2 then 0 else v) p (if k = 2 then v else 0) d) :
    Reads l z2 k (if k = 2 then 0 else v) p (if k = 2 then v else 0) d := by
  refine ⟨hR, ?_, text_of_spl hd ?_⟩
  · split
    · exact hv.2.1
    · omega
  · rw [hL]
    rw [hL] at h
    obtain ⟨z0', z2', hc⟩ := shape_inv h
    rcases hc with ⟨rfl, b, rfl, e⟩ | ⟨rfl, b, rfl, e⟩ | ⟨rfl, rfl, e⟩ | ⟨rfl, rfl, e⟩
    · rcases hm with ⟨m, e1, hm⟩ | ⟨e1, -⟩
      · injection e1 with e1
        subst e1
        have hp := (Mn.parse_back hm).1
        injection e with _ e; injection e with e2 e; injection e with _ e
        subst e2 e
        simp [word, tailP, hv.2.2, hp]
      · cases e1
    · rcases hm with ⟨m, e1, hm⟩ | ⟨e1, -⟩
      · injection e1 with e1
        subst e1
        have hp := (Mn.parse_back hm).1
        injection e with _ e; injection e with e2 e; injection e with _ e
        subst e2 e
        simp [word, tailP, hv.2.2, hp]
      · cases e1
    · injection e with _ e; injection e with e2 e; injection e with _ e
      subst e2 e
      simp [word, tailP, hv.2.2]
    · injection e with _ e; injection e with e2 e; injection e with _ e
      subst e2 e
      simp [word, tailP, hv.2.2]
theorem no_fin {l z0 w z2 a : List UInt8} {r : List (List UInt8)} {k v p d : Int} {mo : Option (List UInt8)} (h : shape (Sp.spl 32 l) = some (k, a, mo)) (hL : Sp.spl 32 l = z0 :: w :: z2 :: r) (hd : Dy.Text d z0)
    (hv : Nm.Is a v) (hm : (∃ m, mo = some m ∧ Mn.parse m = some p) ∨ (mo = none ∧ p = 0)) (hR : ¬ RightP z2 k (if k = 2 then 0 else v) p (if k = 2 then v else 0) d) : ReadsNo l := fun s k' q p' o d' hr => by
  obtain ⟨dl, r', hd', e, -, es⟩ := reads_shape hr
  rw [h] at es
  injection es with es; injection es with e1 e2; injection e2 with e2 e3
  subst e1
  rw [hL] at e
  injection e with f1 e; injection e with f2 e; injection e with f3 e
  subst f1 f3
  have ed := day_uniq hd hd'
  subst ed
  have bd := num_bd hr.1 hr.2.1
  have ev := hv.uniq ⟨bd.1, bd.2, e2.symm⟩
  have hb := mon_bd hr.1
  have hrr := hr.1
  have hkk := right_kind hr.1
  obtain ⟨-, -, -, hk⟩ := hr.1
  have ep : p = p' := by
    rcases hm with ⟨m, rfl, hm⟩ | ⟨rfl, rfl⟩
    · split at e3
      · injection e3 with e3
        rw [e3, Mn.parse_prt p' (by omega) (by omega)] at hm
        injection hm with hm
        exact hm.symm
      · cases e3
    · split at e3
      · cases e3
      · omega
  subst ep
  by_cases hk2 : k = 2
  · rw [if_pos hk2] at ev
    rw [if_pos hk2, if_pos hk2] at hR
    have eq0 : q = 0 := by omega
    subst eq0 ev
    exact hR hrr
  · rw [if_neg hk2] at ev
    rw [if_neg hk2, if_neg hk2] at hR
    have eo : o = 0 := by omega
    subst eo ev
    exact hR hrr
theorem reads_uniq {l s s' : List UInt8} {k q p o d k' q' p' o' d' : Int} (h : Reads l s k q p o d) (h' : Reads l s' k' q' p' o' d') : s = s' ∧ k = k' ∧ q = q' ∧ p = p' ∧ o = o' ∧ d = d' := by
  obtain ⟨dl, r, hd, e, -, es⟩ := reads_shape h
  obtain ⟨dl', r', hd', e', -, es'⟩ := reads_shape h'
  rw [es] at es'
  injection es' with es; injection es with e1 e2; injection e2 with e2 e3
  subst e1
  rw [e] at e'
  injection e' with f1 e'; injection e' with f2 e'; injection e' with f3 e'
  subst f1 f3
  have ed := day_uniq hd hd'
  subst ed
  have b1 := num_bd h.1 h.2.1
  have b2 := num_bd h'.1 h'.2.1
  have ev := Nm.itoa_inj b1.1 b1.2 b2.1 b2.2 e2
  have m1 := mon_bd h.1
  have m2 := mon_bd h'.1
  obtain ⟨-, -, -, hk⟩ := h.1
  obtain ⟨-, -, -, hk'⟩ := h'.1
  have ep : p = p' := by
    split at e3
    · injection e3 with e3
      have h1 := Mn.parse_prt p (by omega) (by omega)
      rw [e3, Mn.parse_prt p' (by omega) (by omega)] at h1
      injection h1 with h1
      exact h1.symm
    · omega
  by_cases hk2 : k = 2
  · rw [if_pos hk2, if_pos hk2] at ev
    exact ⟨rfl, rfl, by omega, ep, ev, rfl⟩
  · rw [if_neg hk2, if_neg hk2] at ev
    exact ⟨rfl, rfl, ev, ep, by omega, rfl⟩
end Go.Proofs.YtjmeefmofbpbnaaGreatDoor.Ev
