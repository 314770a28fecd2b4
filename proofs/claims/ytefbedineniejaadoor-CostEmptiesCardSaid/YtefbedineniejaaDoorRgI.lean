/- A region that draws its order, by one invariant: each operation that may come up leads from it to it again, whatever has come up before; behind the head the tail comes in one order. -/
import Derived.StillTail
import Derived.RegionTactic
namespace Go.Proofs
open Go
set_option linter.unusedVariables false

/-- An act in which the slots S hold what x says. -/
def ov (a : Act) (S : List Nat) (x : Nat → Value) : Act := S.foldl (fun a t => a.put (some t) (x t)) a
def upT (x : Nat → Value) (d : Nat) (v : Value) : Nat → Value := fun t => if t = d then v else x t
def upL (L : Nat → Bool) (i : Nat) : Nat → Bool := fun j => if j = i then true else L j
theorem ov_size (S : List Nat) (x : Nat → Value) : ∀ a, (ov a S x).tmps.size = a.tmps.size := by
  induction S with
  | nil => intro a; rfl
  | cons t S ih => intro a; show (ov (a.put (some t) (x t)) S x).tmps.size = _; rw [ih]; simp [Act.put]
theorem ov_defers (S : List Nat) (x : Nat → Value) : ∀ a, (ov a S x).defers = a.defers := by
  induction S with
  | nil => intro a; rfl
  | cons t S ih => intro a; show (ov (a.put (some t) (x t)) S x).defers = _; rw [ih]; rfl
theorem ov_get (S : List Nat) (x : Nat → Value) : ∀ (a : Act) (t : Nat), t < a.tmps.size → (ov a S x).tmps[t]? = if t ∈ S then some (x t) else a.tmps[t]? := by
  induction S with
  | nil => intro a t ht; rfl
  | cons s S ih =>
    intro a t ht
    show (ov (a.put (some s) (x s)) S x).tmps[t]? = _
    rw [ih _ _ (by simpa [Act.put] using ht)]
    by_cases h : t ∈ S
    · rw [if_pos h, if_pos (List.mem_cons_of_mem _ h)]
    · rw [if_neg h]
      by_cases h2 : t = s
      · subst h2
        rw [if_pos (by simp)]
        simp [Act.put, ht]
      · rw [if_neg (by simp [h2, h])]
        simp [Act.put, Array.getElem?_setIfInBounds_ne (Ne.symm h2)]
theorem act_ext {a b : Act} (h1 : a.tmps = b.tmps) (h2 : a.defers = b.defers) : a = b := by cases a; cases b; simp only at h1 h2; rw [h1, h2]
theorem ov_put {S : List Nat} {x : Nat → Value} {a : Act} {d : Nat} {v : Value} (hd : d ∈ S) : (ov a S x).put (some d) v = ov a S (upT x d v) := by
  refine act_ext ?_ ?_
  · apply Array.ext_getElem?
    intro i
    by_cases hi : i < a.tmps.size
    · rw [ov_get _ _ _ _ hi]
      show ((ov a S x).tmps.setIfInBounds d v)[i]? = _
      by_cases e : i = d
      · subst e
        rw [if_pos hd, upT, if_pos rfl]
        simp [ov_size, hi]
      · rw [Array.getElem?_setIfInBounds_ne (Ne.symm e), ov_get _ _ _ _ hi, upT, if_neg e]
    · rw [Array.getElem?_eq_none (by simp [Act.put, ov_size]; omega), Array.getElem?_eq_none (by rw [ov_size]; omega)]
  · show (ov a S x).defers = _
    rw [ov_defers, ov_defers]
theorem ov_tmp {S : List Nat} {x : Nat → Value} {a : Act} {t : Nat} (hd : t ∈ S) (ht : t < a.tmps.size) : (ov a S x).eval (.tmp t) = x t := by
  show (ov a S x).tmps.getD t undef = _
  rw [Array.getD_eq_getD_getElem?, ov_get _ _ _ _ ht, if_pos hd]
  rfl
theorem ov_old {S : List Nat} {x : Nat → Value} {a : Act} {t : Nat} (hd : t ∉ S) (ht : t < a.tmps.size) : (ov a S x).eval (.tmp t) = a.eval (.tmp t) := by
  show (ov a S x).tmps.getD t undef = a.tmps.getD t undef
  rw [Array.getD_eq_getD_getElem?, Array.getD_eq_getD_getElem?, ov_get _ _ _ _ ht, if_neg hd]
theorem ov_self (S : List Nat) (a : Act) : ov a S (fun t => a.tmps.getD t undef) = a := by
  refine act_ext ?_ (ov_defers _ _ _)
  apply Array.ext_getElem?
  intro i
  by_cases hi : i < a.tmps.size
  · rw [ov_get _ _ _ _ hi]
    split
    · simp [hi]
    · rfl
  · rw [Array.getElem?_eq_none (by rw [ov_size]; omega), Array.getElem?_eq_none (by omega)]
/-- Every operation waits for earlier ones alone. -/
def fwdB (ops : Array Oper) : Bool := (List.range ops.size).all fun i => match ops[i]? with | some o => o.after.all fun e => !Region.binds .any e || decide (e.on < i) | none => true
theorem fwd_spec {ops : Array Oper} (h : fwdB ops = true) {i : Nat} {o : Oper} (ho : ops[i]? = some o) : ∀ e ∈ o.after, Region.binds .any e = true → e.on < i := by
  have hi : i < ops.size := (Array.getElem?_eq_some_iff.1 ho).1
  have h1 := List.all_eq_true.1 h i (List.mem_range.2 hi)
  rw [ho] at h1
  intro e he hb
  have h2 := Array.all_eq_true'.1 h1 e he
  rw [hb] at h2
  simpa using h2
def cntF (L : Nat → Bool) : Nat → Nat
  | 0 => 0
  | n + 1 => cntF L n + (if L n = true then 0 else 1)
theorem cntF_congr {L L' : Nat → Bool} : ∀ {n : Nat}, (∀ j, j < n → L j = L' j) → cntF L n = cntF L' n
  | 0, _ => rfl
  | n + 1, h => by rw [cntF, cntF, cntF_congr (fun j hj => h j (by omega)), h n (by omega)]
theorem cntF_up {L : Nat → Bool} {i : Nat} (hL : L i = false) : ∀ {n : Nat}, i < n → cntF (upL L i) n + 1 = cntF L n
  | 0, h => absurd h (by omega)
  | n + 1, h => by
    rw [cntF, cntF]
    by_cases e : i = n
    · subst e
      rw [cntF_congr (L := upL L i) (L' := L) (fun j hj => if_neg (by omega))]
      simp [upL, hL]
    · have := cntF_up hL (n := n) (by omega)
      have e2 : upL L i n = L n := if_neg (by omega)
      rw [e2]; omega
theorem cntF_zero {L : Nat → Bool} : ∀ {n : Nat}, cntF L n = 0 → ∀ j, j < n → L j = true
  | 0, _, j, hj => absurd hj (by omega)
  | n + 1, h, j, hj => by
    rw [cntF] at h
    by_cases e : j = n
    · subst e
      cases hL : L j with
      | true => rfl
      | false => rw [hL] at h; simp at h
    · exact cntF_zero (n := n) (by omega) j (by omega)
theorem cntF_pos {L : Nat → Bool} : ∀ {n : Nat}, cntF L n ≠ 0 → ∃ j, j < n ∧ L j = false ∧ ∀ k, k < j → L k = true
  | 0, h => absurd rfl h
  | n + 1, h => by
    by_cases h0 : cntF L n = 0
    · refine ⟨n, by omega, ?_, fun k hk => cntF_zero h0 k hk⟩
      rw [cntF, h0] at h
      cases hL : L n with
      | true => rw [hL] at h; simp at h
      | false => rfl
    · obtain ⟨j, h1, h2, h3⟩ := cntF_pos h0
      exact ⟨j, by omega, h2, h3⟩

section
variable {P : Program} {ops : Array Oper} {Q : Exit → Act → World → Prop}
/-- What is asked of the region: by the kernel. -/
def invB (ops : Array Oper) (n : Nat) : Bool :=
  decide (n < ops.size) && fwdB ops && Region.sinkB .any ops n && Region.chainB .any ops n && Region.seqB .any ops (ops.size - n) n (Array.replicate n true ++ Array.replicate (ops.size - n) false)
theorem wpAny_inv (n : Nat) (a0 : Act) (S : List Nat) (I : (Nat → Bool) → (Nat → Value) → World → Prop) (hB : invB ops n = true)
    (hstep : ∀ i, i < n → ∀ L x w, I L x w → L i = false → (∀ j, Region.waitsFor .any ops i j = true → L j = true) → ∀ K : Act → World → Prop, (∀ x' w', I (upL L i) x' w' → K (ov a0 S x') w') → ∃ o, ops[i]? = some o ∧ o.guard = none ∧ o.wp P (ov a0 S x) w K Q)
    (hdone : ∀ L x w, I L x w → (∀ j, j < n → L j = true) → wpList P ops Q (ops.toList.drop n) (ov a0 S x) w) :
    ∀ (f : Nat) (listed : Array Bool) (x : Nat → Value) (w : World), cntF (fun j => listed.getD j false) n = f → HeadInv .any ops n listed → I (fun j => listed.getD j false) x w → wpAny P .any ops Q (f + (ops.size - n)) listed (ov a0 S x) w := by
  simp only [invB, Bool.and_eq_true, decide_eq_true_eq] at hB
  obtain ⟨⟨⟨⟨hn, hfw⟩, hs⟩, hc⟩, hseq⟩ := hB
  intro f
  induction f with
  | zero =>
    intro listed x w hf inv hI
    have hall := cntF_zero hf
    have hl : (Array.replicate n true ++ Array.replicate (ops.size - n) false) = listed := by
      apply Array.ext
      · simp [inv.size]; omega
      · intro i h1 h2
        rw [Array.getElem_append]
        split
        · rename_i h3
          have h4 := hall i (by simpa using h3)
          rw [Array.getD_eq_getD_getElem?, Array.getElem?_eq_getElem h2] at h4
          simpa using h4.symm
        · rename_i h3
          have h4 := inv.tail i (by simpa using h3) (by rw [← inv.size]; exact h2)
          rw [Array.getD_eq_getD_getElem?, Array.getElem?_eq_getElem h2] at h4
          simpa using h4.symm
    rw [hl] at hseq
    have hlen : (ops.toList.drop n).length = ops.size - n := by simp
    have := wpAny_of_seq (P := P) (Q' := Q) (md := .any) (ops := ops) (ops.toList.drop n) n listed (ov a0 S x) w (fun j => by simp) (by rw [hlen]; exact hseq) (hdone _ x w hI hall)
    rw [hlen] at this
    rw [Nat.zero_add]
    exact this
  | succ f ih =>
    intro listed x w hf inv hI
    rw [show f + 1 + (ops.size - n) = (f + (ops.size - n)) + 1 by omega]
    obtain ⟨j, hj, hjL, hjm⟩ := cntF_pos (L := fun j => listed.getD j false) (n := n) (by omega)
    have hjl : listed.getD j true = false := getD_in (by rw [inv.size]; omega) hjL
    have hready : j ∈ Region.ready .any ops listed := by
      rw [mem_ready]
      refine ⟨hjl, ops[j], Array.getElem?_eq_getElem (by omega), fun e he hb => ?_⟩
      exact hjm _ (fwd_spec hfw (Array.getElem?_eq_getElem (by omega)) e he hb)
    refine ⟨fun h0 => (by rw [h0] at hready; cases hready), fun i hi => ?_⟩
    have hin : i < n := by
      rcases Nat.lt_or_ge i n with h | h
      · exact h
      · exact absurd hi (tail_waits hs hc hn inv _ j rfl hj hjl i h)
    obtain ⟨hu, o, ho, hd⟩ := mem_ready.1 hi
    have hiL : listed.getD i false = false := getD_both hu
    have hfun : (fun j => (listed.setIfInBounds i true).getD j false) = upL (fun j => listed.getD j false) i := by
      funext j
      by_cases e : j = i
      · subst e
        rw [upL, if_pos rfl]
        have : j < listed.size := by rw [inv.size]; omega
        simp [this]
      · rw [upL, if_neg e]
        exact getD_set_ne false (Ne.symm e)
    obtain ⟨o', ho', hg, hw⟩ := hstep i hin _ x w hI hiL (fun j hj => by
      obtain ⟨oj, hoj, e, he, hb, hon⟩ := Region.waitsFor_spec hj
      have : oj = o := Option.some.inj (hoj.symm.trans ho)
      subst this
      have := hd e he hb
      rw [hon] at this
      exact this) (wpAny P .any ops Q (f + (ops.size - n)) (listed.setIfInBounds i true)) (fun x' w' hI' => by
        refine ih _ x' w' ?_ (inv.set hi hin) (by rw [hfun]; exact hI')
        rw [hfun]
        have := cntF_up (L := fun j => listed.getD j false) hiL hin
        omega)
    refine wpOp_step ho' fun K hK => ?_
    rw [if_pos (by unfold Region.wanted; rw [hg])]
    exact Oper.wp_mono hK hw
theorem wp_region_inv {id : Nat} {a : Act} {w : World} (hm : P.follows .mixedOrders = true) (n : Nat) (S : List Nat) (I : (Nat → Bool) → (Nat → Value) → World → Prop) (hB : invB ops n = true)
    (h0 : I (fun _ => false) (fun t => a.tmps.getD t undef) w.drew)
    (hstep : ∀ i, i < n → ∀ L x w, I L x w → L i = false → (∀ j, Region.waitsFor .any ops i j = true → L j = true) → ∀ K : Act → World → Prop, (∀ x' w', I (upL L i) x' w' → K (ov a S x') w') → ∃ o, ops[i]? = some o ∧ o.guard = none ∧ o.wp P (ov a S x) w K Q)
    (hdone : ∀ L x w, I L x w → (∀ j, j < n → L j = true) → wpList P ops Q (ops.toList.drop n) (ov a S x) w) : (Code.region id ops true).wp P Q a w := by
  have hB' := hB
  simp only [invB, Bool.and_eq_true, decide_eq_true_eq] at hB'
  have hn := hB'.1.1.1.1
  have inv0 : HeadInv .any ops n (Array.replicate ops.size false) :=
    ⟨by simp, fun j oj _ hl => (by rw [getD_replicate_false] at hl; cases hl), fun t _ ht => getD_in (by simpa using ht) (getD_replicate_false _ _)⟩
  have hL0 : (fun j => (Array.replicate ops.size false).getD j false) = fun _ => false := funext fun j => getD_replicate_false _ _
  have hcnt : cntF (fun _ => false) n = n := by
    have : ∀ m, cntF (fun _ => false) m = m := by
      intro m
      induction m with
      | zero => rfl
      | succ m ih => rw [cntF, ih]; simp
    exact this n
  refine wp_region_any hm ?_
  have := wpAny_inv n a S I hB hstep hdone n (Array.replicate ops.size false) (fun t => a.tmps.getD t undef) w.drew (by rw [hL0, hcnt]) inv0 (by rw [hL0]; exact h0)
  rw [ov_self, show n + (ops.size - n) = ops.size by omega] at this
  exact this
end
end Go.Proofs
