/- Joined: StR, StQ. -/
import Derived.Test.YtackpcohmmlkeaaGreatDoorEvt
import Derived.Test.YtackpcohmmlkeaaGreatDoorRgF
import Derived.Test.YtackpcohmmlkeaaGreatDoorProg
import Derived.Lib.Hide

/- StR: A range over a function whose iterator lays a box in every round, and whose loop variable is boxed too: the iterator hands on all of xs. -/
section
namespace Go.Proofs.YtackpcohmmlkeaaGreatDoor
open Go.RowKit
set_option linter.unusedVariables false

/-- What an iterator does that lays blocks, and writes none that was there: it hands on, one by one, all of xs. -/
def SeqG {α : Type} (P : Program) (g : Nat) (lb : Array Value) (enc : α → Value) (hi : Nat) (xs : List α) (w : World) : Prop :=
  ∀ (l : Nat) (J : List α → World → Prop) (W : World), Below hi w W → (∀ s W1 W2, J s W1 → W1.grownBy W2 none → J s W2) →
    (∀ pre x W1, J pre W1 → (pre ++ [x]) <+: xs → YieldAt Fence.wide 3 P l #[enc x] W1 fun e W' => e = .returned (.bool true) ∧ J (pre ++ [x]) W' ∧ Below hi W1 W') →
    J [] W →
    CallsIn Fence.wide 4 P g (#[.func (.yield l) #[] #[]] ++ lb) W fun e W' => (∃ v, e = .returned v) ∧ J xs W'

theorem rangeFunc_box {α : Type} {P : Program} {g : Operand} {ps : Array Tmp} {assign body : Code} {Q : Exit → Act → World → Prop} {a : Act} {w : World}
    {gf : Nat} {lb : Array Value} (hg : a.eval g = .func (.func gf) #[] lb) (eg : ∀ args w, (callFunc gf args).run P w = .ok (.enter gf args) w)
    {enc : α → Value} {hx : Nat} {xs : List α} (hseq : SeqG P gf lb enc hx xs w) (hn : hx ≤ w.heap.size) (hps : ps.size = 1)
    (I : List α → World → Prop) (hI : OwnFrom w.heap.size I) (h0 : I [] w) (a₁ : α → Nat → Act) (ob : α → Obj)
    (hassign : ∀ (l : Nat) (x : α) (W : World) (K : Act → World → Prop), K (a₁ x W.heap.size) (W.alloc (ob x)) →
      assign.wpIn (Rnd l) 3 P (Exit.then K (fun _ _ _ => False)) { tmps := (ps.zip #[enc x]).foldl (fun t (p, v) => t.setIfInBounds p v) a.tmps, defers := [] } W)
    (hbody : ∀ (l : Nat) (pre : List α) (x : α) (n0 : Nat) (W : World), I pre W → (pre ++ [x]) <+: xs → w.heap.size ≤ n0 → W.heap[n0]? = some (ob x) →
      body.wpIn (Rnd l) 3 P (ownPostK (Below hx) I (fun _ _ _ => False) (pre ++ [x]) W) (a₁ x n0) W)
    (hdone : ∀ (D : Nat) (W : World), w.heap.size ≤ D → I xs W → W.heap[D]? = some (.deferred (some [])) → Q .normal { a with defers := { target := .collected D, args := #[] } :: a.defers } W) :
    (Code.rangeFunc g ps assign body).wpIn Fence.wide 5 P Q a w := by
  refine wpIn_rangeFunc fun fn hfn => ?_
  obtain ⟨rec, hrec⟩ : ∃ rec : LoopState → Option Code → Loop, rec = fun st pe => { state := st, pending := pe, fn, tmps := a.tmps, params := ps, assign, body, defers := w.heap.size } := ⟨_, rfl⟩
  obtain ⟨W1, hW1⟩ : ∃ W1, (w.alloc (.deferred (some []))).alloc (.loop (rec .ready none)) = W1 := ⟨_, rfl⟩
  have hL1 : W1.heap[w.heap.size + 1]? = some (.loop (rec .ready none)) := by
    rw [← hW1]; have := World.alloc_heap_new (w.alloc (.deferred (some []))) (.loop (rec .ready none)); rwa [World.size_alloc] at this
  have hK1 : W1.heap[w.heap.size]? = some (.deferred (some [])) := by
    rw [← hW1]; exact (Below.heap_alloc _ _ _ (by simp)).trans (World.alloc_heap_new w _)
  have hI1 : I [] W1 := by rw [← hW1]; exact hI.alloc _ (hI.alloc _ h0)
  have hb1 : Below hx w W1 := by
    rw [← hW1]; exact (((Below.refl hx w).alloc hn _).alloc (by simp; omega) _)
  have hput : ∀ (W : World) (o o' : Obj), W.heap[w.heap.size + 1]? = some o → Below hx W (W.putObj (w.heap.size + 1) o') := fun W o o' h =>
    (Below.refl hx W).grown (grownBy_putObj' W _ o') (by have := (Array.getElem?_eq_some_iff.1 h).1; omega) (fun k e => by cases e; omega)
  refine ⟨w.heap.size + 1, [{ target := .collected w.heap.size, args := #[] }], W1, { target := .fn (.func gf) lb, args := #[.func (.yield (w.heap.size + 1)) #[] #[]] }, W1, gf,
    #[.func (.yield (w.heap.size + 1)) #[] #[]] ++ lb, W1, ?_, ?_, fun _ _ => trivial, ?_, fun x => by simp [Fence.wide] at x, ?_⟩
  · rw [← hW1, hrec]; exact run_enterLoop_outer _ _ _ _ _
  · simp only [resolve, hg]
    simp [go_sem]
  · simp [invoke, go_sem, eg]
  refine (hseq (w.heap.size + 1)
    (fun pre W => I pre W ∧ W.heap[w.heap.size + 1]? = some (.loop (rec .ready none)) ∧ W.heap[w.heap.size]? = some (.deferred (some [])))
    W1 hb1
    (fun s W W' h hg => ⟨hI _ _ _ _ h.1 hg (fun r e => by cases e), (hg.block _ (Array.getElem?_eq_some_iff.1 h.2.1).1 (by simp)).trans h.2.1, (hg.block _ (Array.getElem?_eq_some_iff.1 h.2.2).1 (by simp)).trans h.2.2⟩)
    ?_ ⟨hI1, hL1, hK1⟩).mono ?_
  · rintro pre x W ⟨hh, hl, hk⟩ hlen
    have hlt : w.heap.size + 1 < W.heap.size := (Array.getElem?_eq_some_iff.1 hl).1
    have hy := run_yield (P := P) (args := #[enc x]) hl (by rw [hrec]; simp [hps])
    rw [hrec] at hy
    obtain ⟨WA, hWA⟩ : ∃ WA, WA = W.alloc (ob x) := ⟨_, rfl⟩
    have hlA : WA.heap[w.heap.size + 1]? = some (.loop (rec .ready none)) := by rw [hWA]; exact (Below.heap_alloc _ _ _ hlt).trans hl
    have hkA : WA.heap[w.heap.size]? = some (.deferred (some [])) := by rw [hWA]; exact (Below.heap_alloc _ _ _ (by omega)).trans hk
    have hnA : WA.heap[W.heap.size]? = some (ob x) := by rw [hWA]; exact World.alloc_heap_new W _
    have hhA : I pre WA := by rw [hWA]; exact hI.alloc _ hh
    have hbA : Below hx W WA := by rw [hWA]; exact (Below.refl hx W).alloc (by omega) _
    have hltA : w.heap.size + 1 < WA.heap.size := (Array.getElem?_eq_some_iff.1 hlA).1
    refine ⟨fn, _, assign, body, hy, roundIn_of_wpIn hfn (hassign _ x W _ ⟨WA.putObj (w.heap.size + 1) (.loop { rec .ready none with state := .busy }), by rw [← hWA]; exact run_beginRound hlA (by rw [hrec]), ?_⟩)⟩
    obtain ⟨W2, hW2⟩ : ∃ W2, W2 = WA.putObj (w.heap.size + 1) (.loop { rec .ready none with state := .busy }) := ⟨_, rfl⟩
    have hl2 : W2.heap[w.heap.size + 1]? = some (.loop { rec .ready none with state := .busy }) := by rw [hW2]; exact World.putObj_heap_same hltA
    have hk2 : W2.heap[w.heap.size]? = some (.deferred (some [])) := by rw [hW2]; exact (World.putObj_heap_other (by omega)).trans hkA
    have hn2 : W2.heap[W.heap.size]? = some (ob x) := by rw [hW2]; exact (World.putObj_heap_other (by omega)).trans hnA
    have hw2 : Below hx W W2 := by rw [hW2]; exact hbA.trans (hput _ _ _ hlA)
    have hi2 : I pre W2 := by rw [hW2]; exact hI.putObj _ hhA (by omega) hlA rfl
    rw [← hW2]
    refine wpIn_mono (hbody _ pre x W.heap.size _ hi2 hlen (by omega) hn2) ?_
    rintro e a3 W3 hp
    cases e with
    | normal =>
      obtain ⟨hk3, hkp3, hi3⟩ := hp
      have hl3 := hk3.same _ _ hl2 rfl
      have hr := run_endRound (P := P) none hl3
      refine ⟨_, _, hr, rfl, ⟨hI.putObj _ hi3 (by omega) hl3 rfl, ?_, (World.putObj_heap_other (by omega)).trans (hk3.same _ _ hk2 rfl)⟩, (hw2.trans hkp3).trans (hput _ _ _ hl3)⟩
      have := World.putObj_heap_same (o := .loop (rec .ready none)) (Array.getElem?_eq_some_iff.1 hl3).1
      rw [hrec] at this ⊢
      exact this
    | ret => exact hp.2.elim
    | exit id => exact hp.2.elim
    | goto t => exact hp.2.elim
    | panic ch => exact hp.elim
    | outgrown => exact hp.elim
  · rintro e W2 ⟨⟨v, rfl⟩, ⟨hh, hl, hk⟩⟩
    exact ⟨none, _, by have := run_endLoop (P := P) hl (by rw [hrec]; simp); rw [hrec] at this; exact this, hdone _ _ (Nat.le_refl _) (hI.putObj _ hh (by omega) hl rfl) ((World.putObj_heap_other (by omega)).trans hk)⟩
end Go.Proofs.YtackpcohmmlkeaaGreatDoor
end

/- StQ: slices.Values and slices.Collect at events: what is collected are the events, in their order. -/
section
namespace Go.Proofs.YtackpcohmmlkeaaGreatDoor
open Go.RowKit
set_option linter.unusedVariables false
attribute [local go_sem] Oper.semAt_some

theorem own_row_kept_e {W W' : World} {row : Option Nat} {base e size n : Nat} {v : Value} {xs : List Value} (h : W.ownsRow base e size v n xs) (hg : W.grownBy W' row) (hr : ∀ r, row = some r → ∃ o : Obj, W.heap[r]? = some o ∧ o.isCells = false) : W'.ownsRow base e size v n xs := by
  refine h.kept hg ?_
  rcases h.2 with ⟨rfl, _⟩ | ⟨g, cap, cur, rfl, _, hgb, _⟩
  · exact Or.inl rfl
  · refine Or.inr (fun e' => ?_)
    obtain ⟨o, ho, hc⟩ := hr g (by simpa [Value.ownBlock] using e'.symm)
    rw [hgb] at ho; cases ho; cases hc
set_option maxRecDepth 100000 in
set_option maxHeartbeats 2000000 in
theorem values1_seq (Bs hi : Nat) (v : Value) (es : List Evt) (w : World) (hB : Bs < hi) (hh : hi ≤ w.heap.size) (hlen : es.length ≤ 1000000000) (hc : w.cell? ⟨Bs, 0, none⟩ = some v) (hr : RdE hi w v es) :
    SeqG Tryz.prog 91 #[.pointer (some ⟨Bs, 0, none⟩)] Evt.agg hi es w := by
  intro l J W hW hT hY h0
  have gc : W.cell? ⟨Bs, 0, none⟩ = some v := (hW.cell hB).trans hc
  clear hc
  refine callsIn_of_wp Tryz.func91 rfl trivial ?_ rfl
  simp only [Tryz.ntmps91, List.size_toArray, List.length_cons, List.length_nil, Nat.reduceAdd, Nat.reduceSub, Array.replicate_succ, Array.replicate_zero, List.push_toArray, List.append_toArray, List.nil_append, List.cons_append]
  rcases hr with ⟨rfl, rfl⟩ | ⟨b, off, cap, rfl, hb, hcs⟩
  · gi_wp2
    gi_loopw [7] (fun i wr => i = .int .i64 0 ∧ J [] wr) (fun _ _ => 0)
    case atStart => exact ⟨rfl, h0⟩
    case round =>
      obtain ⟨rfl, hJ⟩ := hrel
      gi_wp2
      go_end0
      exact ⟨⟨_, rfl⟩, hJ⟩
  · gi_wp2
    gi_loopw [7] (fun i wr => ∃ k : Nat, i = .int .i64 k ∧ k ≤ es.length ∧ J (es.take k) wr ∧ Below hi w wr) (fun i _ => match i with | .int _ z => es.length - z.toNat | _ => 0)
    case atStart => exact ⟨0, rfl, Nat.zero_le _, h0, hW⟩
    case round =>
      obtain ⟨k, rfl, hk, hJ, hbw⟩ := hrel
      by_cases hlt : k < es.length
      · have hltz : (k : Int) < (es.length : Int) := by omega
        have hY1 := hY (es.take k) es[k]
        have hpre : (es.take k ++ [es[k]]) = es.take (k + 1) := by rw [List.take_add_one]; simp [hlt]
        rw [hpre] at hY1
        have cc := fun j u hu => (hbw.cell (p := ⟨b, off + k * 7 + j, none⟩) hb).trans (hcs k hlt j u hu)
        generalize es[k] = x at hY1 cc
        have c0 : wr.cell? ⟨b, off + k * 7, none⟩ = some (.int .i64 x.id) := cc 0 _ rfl
        have c1 : wr.cell? ⟨b, off + k * 7 + 1, none⟩ = some (.string x.item) := cc 1 _ rfl
        have c2 : wr.cell? ⟨b, off + k * 7 + 2, none⟩ = some (.int .i64 x.kind) := cc 2 _ rfl
        have c3 : wr.cell? ⟨b, off + k * 7 + 3, none⟩ = some (.int .i64 x.qty) := cc 3 _ rfl
        have c4 : wr.cell? ⟨b, off + k * 7 + 4, none⟩ = some (.int .i64 x.price) := cc 4 _ rfl
        have c5 : wr.cell? ⟨b, off + k * 7 + 5, none⟩ = some (.int .i64 x.ofn) := cc 5 _ rfl
        have c6 : wr.cell? ⟨b, off + k * 7 + 6, none⟩ = some (.int .i64 x.day) := cc 6 _ rfl
        have hlo : hi ≤ wr.heap.size := Nat.le_trans hh hbw.size
        have hY2 := hY1 (wr.alloc x.ob) (hT _ _ _ hJ (World.grownBy_alloc wr _ none)) (List.take_prefix _ _)
        clear cc hY1 hY hcs hpre
        obtain ⟨fn, tmps, assign, body, hy, hR⟩ := hY2
        obtain ⟨i, s, kd, q, p, o, d⟩ := x
        simp only at c0 c1 c2 c3 c4 c5 c6
        simp only [Evt.agg, Evt.ob] at hy hR
        gi_wp2
        refine hR.mono ?_
        rintro e W3 ⟨rfl, hJ3, hb3⟩
        gi_wp2
        go_roundw
        case rel => exact ⟨k + 1, by first | rfl | go_num | (congr 1; omega), hlt, hJ3, (hbw.trans ((Below.refl hi wr).alloc hlo _)).trans hb3⟩
        case measure => simp only [Int.toNat_natCast]; omega
      · have hltz : ¬ (k : Int) < (es.length : Int) := by omega
        have hke : k = es.length := by omega
        gi_wp2
        go_end0
        refine ⟨⟨_, rfl⟩, ?_⟩
        rw [hke, List.take_length] at hJ
        exact hJ

theorem SeqG.later {α : Type} {P : Program} {g : Nat} {lb : Array Value} {enc : α → Value} {hi : Nat} {xs : List α} {w w' : World} (h : SeqG P g lb enc hi xs w) (hb : Below hi w w') : SeqG P g lb enc hi xs w' :=
  fun l J W hW => h l J W (hb.trans hW)
/-- Between two rounds of the collecting. -/
def ApI (w : World) (pre : List Evt) (W : World) : Prop :=
  ∃ v, Boxed W w.heap.size 22 v ∧ W.ownsRow w.heap.size 49 7 v pre.length (flE pre) ∧ Below w.heap.size w W
theorem apI_own (w : World) (D : Nat) (hD : w.heap.size + 1 ≤ D) : OwnFrom D (ApI w) := by
  rintro pre W W' row ⟨v, h0, ho, hb⟩ hg hr
  exact ⟨v, h0.kept hg (fun e => by have := (hr _ e.symm).1; omega), own_row_kept_e ho hg (fun r e => (hr r e).2), hb.grown hg hb.size (fun k e => by have := (hr k e).1; omega)⟩

set_option maxRecDepth 100000 in
set_option maxHeartbeats 4000000 in
theorem appendSeq_any (g : Nat) (lb : Array Value) (eg : ∀ args w, (callFunc g args).run Tryz.prog w = .ok (.enter g args) w) (es : List Evt) (hes : es.length ≤ 1000000000) (w : World) (hseq : SeqG Tryz.prog g lb Evt.agg w.heap.size es w) :
    Calls Tryz.prog 131 #[.slice none 0 0, .func (.func g) #[] lb] w fun e w' => ∃ v, e = .returned v ∧ w'.ownsRow w.heap.size 49 7 v es.length (flE es) ∧ Below w.heap.size w w' := by
  refine (callsIn_wide (n := 5)).1 ?_
  refine callsIn_of_wp_marks Tryz.func131 rfl trivial ?_ rfl
  simp only [Tryz.ntmps131, List.size_toArray, List.length_cons, List.length_nil, Nat.reduceAdd, Nat.reduceSub, Array.replicate_succ, Array.replicate_zero, List.push_toArray, List.append_toArray, List.nil_append, List.cons_append]
  gi_wp2
  obtain ⟨W0, hW0⟩ : ∃ W0, W0 = w.alloc (.cells #[.slice none 0 0] 22) := ⟨_, rfl⟩
  rw [← hW0]
  have z0 : W0.heap.size = w.heap.size + 1 := by rw [hW0]; simp
  have x0 : Boxed W0 w.heap.size 22 (.slice none 0 0) := by rw [hW0]; exact Boxed.new w _ _
  have B0 : Below w.heap.size w W0 := by rw [hW0]; exact (Below.refl _ w).new _
  have hI0 : ApI w [] W0 := ⟨_, x0, World.ownsRow_nil _ _ _ _, B0⟩
  clear hW0 x0
  refine rangeFunc_box (gf := g) (lb := lb) (hx := w.heap.size) ?hg eg (hseq.later B0) (by omega) rfl (ApI w) ?oI hI0 (fun x n0 => { tmps := #[.slice none 0 0, .func (.func g) #[] lb, .pointer (some ⟨w.heap.size, 0, none⟩), undef, .slice none 0 0, .pointer (some ⟨n0, 0, none⟩), .func (.func g) #[] lb, x.agg, undef, undef, undef, undef, undef], defers := [] }) Evt.ob ?assign ?body ?done
  case hg => rfl
  case oI => exact apI_own w _ (by omega)
  case assign =>
    intro l x W K hK
    obtain ⟨i, s, kd, q, p, o, d⟩ := x
    gi_wp2
    exact hK
  case body =>
    rintro l pre x n0 W ⟨v, h0, ho, hb⟩ hpre hn0 hob
    have hpl : pre.length < es.length := by have := hpre.length_le; simp at this; omega
    have c0 := h0.cell
    have f0 := h0.frozen
    have hl0 := h0.lt
    have hbs := hb.size
    obtain ⟨i0, hi, hiz, his, hib⟩ := info_parts info_evt
    obtain ⟨i, s, kd, q, p, o, d⟩ := x
    have d0 : W.cell? ⟨n0, 0, none⟩ = some (.int .i64 i) := by simp [World.cell?, hob, Evt.ob]
    have d1 : W.cell? ⟨n0, 1, none⟩ = some (.string s) := by simp [World.cell?, hob, Evt.ob]
    have d2 : W.cell? ⟨n0, 2, none⟩ = some (.int .i64 kd) := by simp [World.cell?, hob, Evt.ob]
    have d3 : W.cell? ⟨n0, 3, none⟩ = some (.int .i64 q) := by simp [World.cell?, hob, Evt.ob]
    have d4 : W.cell? ⟨n0, 4, none⟩ = some (.int .i64 p) := by simp [World.cell?, hob, Evt.ob]
    have d5 : W.cell? ⟨n0, 5, none⟩ = some (.int .i64 o) := by simp [World.cell?, hob, Evt.ob]
    have d6 : W.cell? ⟨n0, 6, none⟩ = some (.int .i64 d) := by simp [World.cell?, hob, Evt.ob]
    clear hob
    obtain ⟨cs, hcs⟩ : ∃ cs, cs = Evt.cells ⟨i, s, kd, q, p, o, d⟩ := ⟨_, rfl⟩
    gi_wp2_with (gi_at_builtin; refine wpListIn_append_own _ rfl (.tmp 8) (.tmp 10) 22 rfl w.heap.size 49 i0 (.agg #[.int .i64 0, .string ⟨#[]⟩, .int .i64 0, .int .i64 0, .int .i64 0, .int .i64 0, .int .i64 0]) 7 64 Tryz.underlying22 hi hiz his hib rfl (by decide) v pre.length (flE pre) rfl (ho.alloc _) ⟨W.heap.size, 0, none⟩ 1 1 (Evt.cells ⟨i, s, kd, q, p, o, d⟩) rfl rfl (fun j u hj => ?cells) (one_evt _) (by unfold maxLen; omega) (by omega) (by simp; omega) ?app)
    case cells =>
      have e0 : (⟨W.heap.size, 0, none⟩ : Addr).add j = ⟨W.heap.size, j, none⟩ := by simp [Addr.add]; omega
      rw [e0]
      simp only [World.cell?, World.alloc_heap_new]
      simpa [Evt.cells] using hj
    case app =>
      intro v' w3 ho3 hg3 hn3
      obtain ⟨b1, b2, b3, b4, b5⟩ := h0.appended (by decide) ho hbs (Nat.le_refl _) ho3 hg3
      have c3 := b1.cell
      have f3 := b1.frozen
      have hl3 := b1.lt
      rw [← flE_snoc] at b3
      obtain ⟨va, vc, rfl⟩ := own_slice ho3
      gi_wp2
      exact ⟨b4, b5, _, b2, by rw [List.length_append]; exact b3, hb.trans b5⟩
  case done =>
    rintro D W hD ⟨v, h0, ho, hb⟩ hK
    obtain ⟨va, vc, rfl⟩ := own_slice ho
    have c0 := h0.cell
    have hl0 := h0.lt
    have hDl : D < W.heap.size := (Array.getElem?_eq_some_iff.1 hK).1
    gi_wp2
    refine ⟨by simp, .inl ⟨_, _, rfl, run_takeDeferred hK, ?_⟩⟩
    exact ⟨_, results_tmp rfl _ _ _, _, rfl, own_row_kept_e ho (grownBy_putObj' _ D _) (fun r e => by cases e; exact ⟨_, hK, rfl⟩), hb.grown (grownBy_putObj' _ D _) hb.size (fun k e => by cases e; omega)⟩

/-- slices.Collect: what the iterator hands on, in a row of the call's own. -/
theorem collect_any (g : Nat) (lb : Array Value) (eg : ∀ args w, (callFunc g args).run Tryz.prog w = .ok (.enter g args) w) (es : List Evt) (hes : es.length ≤ 1000000000) (w : World) (hseq : SeqG Tryz.prog g lb Evt.agg w.heap.size es w) :
    Calls Tryz.prog 89 #[.func (.func g) #[] lb] w fun e w' => ∃ v, e = .returned v ∧ w'.ownsRow w.heap.size 49 7 v es.length (flE es) ∧ Below w.heap.size w w' := by
  have H := Lib.hid (appendSeq_any g lb eg es hes w hseq)
  clear hseq
  go_enter Tryz.func89, Tryz.ntmps89
  go_wp2_with (go_at_call 131; refine H.out.mono ?_; rintro e w' ⟨v, rfl, ho, hb⟩)
  go_ret
  exact ⟨v, rfl, ho, hb⟩
/-- slices.Values: an iterator over these events. -/
theorem values_any (a : Option Addr) (n c : Nat) (w : World) :
    Calls Tryz.prog 58 #[.slice a n c] w fun e w' => e = .returned (.func (.func 91) #[] #[.pointer (some ⟨w.heap.size, 0, none⟩)]) ∧ w' = w.alloc (.cells #[.slice a n c] 22) := by
  go_enter Tryz.func58, Tryz.ntmps58
  go_wp2
  go_ret
  exact ⟨rfl, rfl⟩
end Go.Proofs.YtackpcohmmlkeaaGreatDoor
end
