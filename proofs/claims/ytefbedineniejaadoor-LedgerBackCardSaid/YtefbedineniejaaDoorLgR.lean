/- Postings as text, read: plain laws. -/
import Derived.Test.YtefbedineniejaaDoorLgM
import Derived.Test.YtefbedineniejaaDoorMoneyB
import Derived.Test.YtefbedineniejaaDoorSpl
import Derived.Lib.SlicesS
namespace Go.Proofs.YtefbedineniejaaDoor
open Go.RowKit
namespace Lg
def acc : List ByteArray := [gain, late, loss, sold, stock, supply]
def frm : ByteArray := ⟨#[102, 114, 111, 109]⟩
/-- A line's words. -/
def ws (t : List UInt8) : List ByteArray := (Sp.spl 32 t).map fun x => ⟨x.toArray⟩
def okw (W : List ByteArray) : Bool := decide (W.length = 4) && decide (W.getD 2 ByteArray.empty = frm) && decide (W.getD 1 ByteArray.empty ≠ W.getD 3 ByteArray.empty) && Lib.containsS acc (W.getD 1 ByteArray.empty) && Lib.containsS acc (W.getD 3 ByteArray.empty)
/-- The posting that a line is. -/
def pline (t : List UInt8) : Option P :=
  if okw (ws t) = true then
    match Mn.parse ((ws t).getD 0 ByteArray.empty).data.toList with
    | some n => if 0 < n then some ⟨(ws t).getD 1 ByteArray.empty, (ws t).getD 3 ByteArray.empty, n⟩ else none
    | none => none
  else none
def Ok (p : P) : Prop := p.d ∈ acc ∧ p.c ∈ acc ∧ p.d ≠ p.c ∧ 0 < p.n ∧ p.n ≤ 1000000000000
def body (p : P) : List UInt8 := Mn.prt p.n ++ [32] ++ p.d.data.toList ++ [32, 102, 114, 111, 109, 32] ++ p.c.data.toList
theorem line_body (p : P) : line p = body p ++ [10] := rfl

theorem prt_mem (n : Int) : ∀ b ∈ Mn.prt n, b.toNat = 45 ∨ b.toNat = 46 ∨ (48 ≤ b.toNat ∧ b.toNat ≤ 57) := by
  have hdec : ∀ u : Nat, ∀ b ∈ Lib.decDigits u, 48 ≤ b.toNat ∧ b.toNat ≤ 57 := by
    intro u
    induction u using Nat.strongRecOn with
    | _ u ih =>
      intro b hb
      by_cases h : u < 10
      · rw [Lib.decDigits_one h, List.mem_singleton] at hb
        subst hb
        rw [UInt8.toNat_ofNat']; omega
      · rw [Lib.decDigits, dif_neg h, List.mem_append, List.mem_singleton] at hb
        rcases hb with hb | hb
        · exact ih (u / 10) (by omega) b hb
        · subst hb; rw [UInt8.toNat_ofNat']; omega
  have hpr : ∀ u : Nat, ∀ b ∈ Mn.pr u, b.toNat = 45 ∨ b.toNat = 46 ∨ (48 ≤ b.toNat ∧ b.toNat ≤ 57) := by
    intro u b hb
    rw [Mn.pr, List.mem_append] at hb
    rcases hb with hb | hb
    · exact Or.inr (Or.inr (hdec _ b hb))
    · simp only [List.mem_cons, List.not_mem_nil, or_false] at hb
      rcases hb with rfl | rfl | rfl
      · exact Or.inr (Or.inl rfl)
      · refine Or.inr (Or.inr ?_); rw [UInt8.toNat_ofNat']; omega
      · refine Or.inr (Or.inr ?_); rw [UInt8.toNat_ofNat']; omega
  intro b hb
  unfold Mn.prt at hb
  split at hb
  · rw [List.mem_cons] at hb
    rcases hb with rfl | hb
    · exact Or.inl rfl
    · exact hpr _ b hb
  · exact hpr _ b hb
theorem prt_no (n : Int) (c : UInt8) (h : c.toNat < 45) : c ∉ Mn.prt n := fun hc => by
  have := prt_mem n c hc
  omega
theorem acc_no : ∀ a ∈ acc, (32 : UInt8) ∉ a.data.toList ∧ (10 : UInt8) ∉ a.data.toList := by
  intro a ha
  simp only [acc, List.mem_cons, List.not_mem_nil, or_false] at ha
  rcases ha with rfl | rfl | rfl | rfl | rfl | rfl <;> decide
theorem body_jn (p : P) : body p = Sp.jn 32 [Mn.prt p.n, p.d.data.toList, frm.data.toList, p.c.data.toList] := by
  simp [body, Sp.jn, frm]
theorem body_spl {p : P} (h : Ok p) : Sp.spl 32 (body p) = [Mn.prt p.n, p.d.data.toList, frm.data.toList, p.c.data.toList] := by
  rw [body_jn]
  refine Sp.spl_jn (by simp) ?_
  intro x hx
  simp only [List.mem_cons, List.not_mem_nil, or_false] at hx
  rcases hx with rfl | rfl | rfl | rfl
  · exact prt_no _ _ (by decide)
  · exact (acc_no _ h.1).1
  · decide
  · exact (acc_no _ h.2.1).1
theorem body_ten {p : P} (h : Ok p) : (10 : UInt8) ∉ body p := by
  intro hx
  simp only [body, List.mem_append, List.mem_cons, List.not_mem_nil, or_false] at hx
  rcases hx with (((hx | hx) | hx) | hx) | hx
  · exact prt_no _ _ (by decide) hx
  · exact absurd hx (by decide)
  · exact (acc_no _ h.1).2 hx
  · exact absurd hx (by decide)
  · exact (acc_no _ h.2.1).2 hx
theorem ba_eq (a : ByteArray) : (⟨a.data.toList.toArray⟩ : ByteArray) = a := rfl
theorem ws_body {p : P} (h : Ok p) : ws (body p) = [⟨(Mn.prt p.n).toArray⟩, p.d, frm, p.c] := by
  rw [ws, body_spl h]; rfl
theorem pline_body {p : P} (h : Ok p) : pline (body p) = some p := by
  have hw := ws_body h
  have h1 : okw (ws (body p)) = true := by
    rw [hw]
    simp only [okw, Bool.and_eq_true, decide_eq_true_eq, Lib.containsS_iff]
    exact ⟨⟨⟨⟨rfl, rfl⟩, h.2.2.1⟩, h.1⟩, h.2.1⟩
  unfold pline
  rw [if_pos h1, hw]
  simp only [List.getD_cons_zero, List.getD_cons_succ]
  rw [Mn.parse_prt p.n (by have := h.2.2.2.1; omega) h.2.2.2.2]
  simp only
  rw [if_pos h.2.2.2.1]
theorem len4 {W : List ByteArray} (h : W.length = 4) : W = [W.getD 0 ByteArray.empty, W.getD 1 ByteArray.empty, W.getD 2 ByteArray.empty, W.getD 3 ByteArray.empty] := by
  match W, h with
  | [a, b, c, d], _ => rfl
theorem pline_some {t : List UInt8} {p : P} (h : pline t = some p) : Ok p ∧ body p = t := by
  unfold pline at h
  split at h
  · rename_i h1
    simp only [okw, Bool.and_eq_true, decide_eq_true_eq, Lib.containsS_iff] at h1
    obtain ⟨⟨⟨⟨h4, h2⟩, h3⟩, h5⟩, h6⟩ := h1
    split at h
    · rename_i n hn
      split at h
      · rename_i hpos
        cases h
        obtain ⟨hb, -, hle⟩ := Mn.parse_back hn
        refine ⟨⟨h5, h6, h3, hpos, hle⟩, ?_⟩
        have hW := len4 h4
        rw [h2] at hW
        have hs : Sp.spl 32 t = (ws t).map fun x => x.data.toList := by
          rw [ws, List.map_map]
          exact (List.map_id _).symm
        rw [body_jn]
        simp only
        rw [hb]
        have hj := Sp.jn_spl 32 t
        rw [hs, hW] at hj
        exact hj
      · cases h
    · cases h
  · cases h

/-- s is these postings, written. -/
def Reads (s : List UInt8) (ps : List P) : Prop := (s = [] ∧ ps = []) ∨ (∃ r, s = r ++ [10] ∧ (Sp.spl 10 r).map pline = ps.map some)
/-- s is none; at which line. -/
def Fails (s : List UInt8) (k : Nat) : Prop := s ≠ [] ∧ ((∃ pre t, (pre ++ [t]) <+: Sp.spl 10 (Lib.trimSuffix s [10]) ∧ (∃ ps : List P, pre.map pline = ps.map some) ∧ pline t = none ∧ k = pre.length) ∨
  ((∃ ps : List P, (Sp.spl 10 (Lib.trimSuffix s [10])).map pline = ps.map some) ∧ Lib.hasSuffix s [10] = false ∧ k + 1 = (Sp.spl 10 (Lib.trimSuffix s [10])).length))

theorem map_some {L : List (List UInt8)} {ps : List P} (h : L.map pline = ps.map some) : (∀ p ∈ ps, Ok p) ∧ ps.map body = L := by
  induction L generalizing ps with
  | nil =>
    have : ps = [] := by cases ps with
      | nil => rfl
      | cons a b => simp at h
    subst this
    simp
  | cons t L ih =>
    cases ps with
    | nil => simp at h
    | cons p ps =>
      simp only [List.map_cons, List.cons.injEq] at h
      obtain ⟨h1, h2⟩ := ih h.2
      obtain ⟨h3, h4⟩ := pline_some h.1
      refine ⟨fun q hq => ?_, by rw [List.map_cons, h4, h2]⟩
      rcases List.mem_cons.1 hq with rfl | hq
      · exact h3
      · exact h1 q hq
theorem text_jn {ps : List P} (h : ps ≠ []) : text ps = Sp.jn 10 (ps.map body) ++ [10] := by
  induction ps with
  | nil => exact absurd rfl h
  | cons p ps ih =>
    cases ps with
    | nil => simp [text, Sp.jn, line_body]
    | cons q r =>
      have := ih (by simp)
      simp only [List.map_cons, Sp.jn] at this ⊢
      rw [text, List.flatMap_cons, ← text, this, line_body]
      simp
theorem trim_ten (r : List UInt8) : Lib.trimSuffix (r ++ [10]) [10] = r ∧ Lib.hasSuffix (r ++ [10]) [10] = true := by
  have h : Lib.hasSuffix (r ++ [10]) [10] = true := by
    rw [Lib.hasSuffix, List.isSuffixOf_iff_suffix]; exact ⟨r, rfl⟩
  refine ⟨?_, h⟩
  rw [Lib.trimSuffix, if_pos h]; simp
theorem has_ten {s : List UInt8} (h : Lib.hasSuffix s [10] = true) : ∃ r, s = r ++ [10] := by
  rw [Lib.hasSuffix, List.isSuffixOf_iff_suffix] at h
  obtain ⟨r, h⟩ := h
  exact ⟨r, h.symm⟩
/-- What was read is written just so. -/
theorem reads_text {s : List UInt8} {ps : List P} (h : Reads s ps) : (∀ p ∈ ps, Ok p) ∧ text ps = s := by
  rcases h with ⟨rfl, rfl⟩ | ⟨r, rfl, h⟩
  · exact ⟨by simp, rfl⟩
  · obtain ⟨h1, h2⟩ := map_some h
    refine ⟨h1, ?_⟩
    have hne : ps ≠ [] := by
      intro e
      subst e
      exact Sp.spl_ne 10 r (by simpa using h2.symm)
    rw [text_jn hne, h2, Sp.jn_spl]
theorem map_ok {ps : List P} (h : ∀ p ∈ ps, Ok p) : (ps.map body).map pline = ps.map some := by
  rw [List.map_map]
  exact List.map_congr_left fun p hp => pline_body (h p hp)
theorem spl_text {ps : List P} (h : ∀ p ∈ ps, Ok p) (hne : ps ≠ []) : Sp.spl 10 (Sp.jn 10 (ps.map body)) = ps.map body :=
  Sp.spl_jn (by simpa using hne) fun x hx => by
    obtain ⟨p, hp, rfl⟩ := List.mem_map.1 hx
    exact body_ten (h p hp)
/-- What was written is read. -/
theorem text_fails {ps : List P} (h : ∀ p ∈ ps, Ok p) (k : Nat) : ¬ Fails (text ps) k := by
  rintro ⟨hne, hx⟩
  have hps : ps ≠ [] := fun e => hne (by rw [e]; rfl)
  rw [text_jn hps, (trim_ten _).1, (trim_ten _).2, spl_text h hps] at hx
  rcases hx with ⟨pre, t, hpre, -, ht, -⟩ | ⟨-, hx, -⟩
  · have : t ∈ ps.map body := hpre.subset (by simp)
    obtain ⟨p, hp, rfl⟩ := List.mem_map.1 this
    rw [pline_body (h p hp)] at ht
    cases ht
  · cases hx
theorem some_inj {a b : List P} (h : a.map some = b.map some) : a = b := (List.map_inj_right (fun _ _ h => Option.some.inj h)).1 h
theorem text_reads {ps qs : List P} (h : ∀ p ∈ ps, Ok p) (hr : Reads (text ps) qs) : qs = ps := by
  by_cases hps : ps = []
  · subst hps
    rcases hr with ⟨-, h⟩ | ⟨r, h, -⟩
    · exact h
    · exact absurd (congrArg List.length h) (by simp [text])
  · rw [text_jn hps] at hr
    rcases hr with ⟨h0, -⟩ | ⟨r, h1, h2⟩
    · exact absurd (congrArg List.length h0) (by simp)
    · have : Sp.jn 10 (ps.map body) = r := by simpa using h1
      rw [← this, spl_text h hps, map_ok h] at h2
      exact some_inj h2.symm
theorem one_ok {d c : ByteArray} (hd : d ∈ acc) (hc : c ∈ acc) (hne : d ≠ c) {n : Int} (h1 : n ≤ 1000000000000) (h2 : -1000000000000 ≤ n) : ∀ p ∈ one d c n, Ok p := by
  intro p hp
  unfold one at hp
  split at hp
  · simp at hp; subst hp; exact ⟨hd, hc, hne, by assumption, h1⟩
  · split at hp
    · simp at hp; subst hp; exact ⟨hc, hd, hne.symm, by show 0 < -n; omega, by show -n ≤ _; omega⟩
    · simp at hp
def InB (n : Int) : Prop := n ≤ 1000000000000 ∧ -1000000000000 ≤ n
theorem figs_ok {i o l g t : Int} (h1 : InB i) (h2 : InB o) (h3 : InB l) (h4 : InB g) (h5 : InB t) : ∀ p ∈ figs i o l g t, Ok p := by
  intro p hp
  simp only [figs, List.mem_append] at hp
  rcases hp with (((hp | hp) | hp) | hp) | hp
  · exact one_ok (by simp [acc]) (by simp [acc]) (by decide) h1.1 h1.2 p hp
  · exact one_ok (by simp [acc]) (by simp [acc]) (by decide) h2.1 h2.2 p hp
  · exact one_ok (by simp [acc]) (by simp [acc]) (by decide) h3.1 h3.2 p hp
  · exact one_ok (by simp [acc]) (by simp [acc]) (by decide) h4.1 h4.2 p hp
  · exact one_ok (by simp [acc]) (by simp [acc]) (by decide) h5.1 h5.2 p hp
theorem line_len {p : P} (h : Ok p) : (line p).length ≤ 60 := by
  have h1 : ∀ a ∈ acc, a.data.toList.length ≤ 6 := by
    intro a ha
    simp only [acc, List.mem_cons, List.not_mem_nil, or_false] at ha
    rcases ha with rfl | rfl | rfl | rfl | rfl | rfl <;> decide
  have h2 := h1 _ h.1
  have h3 := h1 _ h.2.1
  have h4 := Mn.prt_len p.n (by have := h.2.2.2.1; omega) h.2.2.2.2
  simp only [line, List.length_append, List.length_cons, List.length_nil]
  omega
theorem text_len {L : List P} (h : ∀ p ∈ L, Ok p) : (text L).length ≤ L.length * 60 := by
  induction L with
  | nil => simp [text]
  | cons p L ih =>
    have h1 := ih (fun q hq => h q (by simp [hq]))
    have h2 := line_len (h p (by simp))
    simp only [text, List.flatMap_cons, List.length_append, List.length_cons] at *
    omega
end Lg
end Go.Proofs.YtefbedineniejaaDoor
