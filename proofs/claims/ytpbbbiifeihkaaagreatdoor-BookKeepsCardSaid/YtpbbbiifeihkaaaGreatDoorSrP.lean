/- tallymanref.ordered: a row of the call's own that holds the events in their order. -/
import Derived.Test.YtpbbbiifeihkaaaGreatDoorSrO
import Derived.Laws.AppendOwnNone
namespace Go.Proofs.YtpbbbiifeihkaaaGreatDoor
open Go.Shelf Go.RowKit Go.Lib Go.Sort
set_option linter.unusedVariables false

theorem below_grow0 (w : World) (os : Array Obj) : Below w.heap.size w (Go.Sort.grow w os) :=
  ⟨rfl, rfl, rfl, by simp [Go.Sort.grow], fun i hi => by
    show (w.heap ++ os)[i]? = _
    rw [Array.getElem?_append_left hi]⟩
set_option maxHeartbeats 1000000 in
set_option maxRecDepth 100000 in
theorem ord_call (base : Nat) (v2 : Value) (es : List Evt) (w2 : World) (ho : w2.ownsRow base 24 7 v2 es.length (flE es)) (hb : base ≤ w2.heap.size) (hl : es.length ≤ 1000) :
    Calls Tryz.prog 65 #[.iface 22 v2, .func (.func 66) #[] #[.pointer (some ⟨w2.heap.size, 0, none⟩)]] (w2.alloc (.cells #[v2] 22)) fun e w' =>
      e = .returned (.tuple #[]) ∧ (w'.ownsRow base 24 7 v2 (Stb.isort leE es).length (flE (Stb.isort leE es)) ∧ Below base (w2.alloc (.cells #[v2] 22)) w' ∧ w'.heap[w2.heap.size]? = some (.cells #[v2] 22 (0, 0))) := by
  have hbx := World.alloc_heap_new w2 (.cells #[v2] 22)
  have hsz : (w2.alloc (.cells #[v2] 22)).heap.size = w2.heap.size + 1 := by simp
  by_cases h2 : 2 ≤ es.length
  · have ho' := ho
    rcases ho.2 with ⟨rfl, h0⟩ | ⟨g, cap, cur, rfl, hbg, hc, -⟩
    · omega
    · have hgl := (Array.getElem?_eq_some_iff.1 hc).1
      have hR : OrR base g w2.heap.size cap es.length es.toArray (w2.alloc (.cells #[.slice (some ⟨g, 0, none⟩) es.length cap] 22)) := ⟨by simp, by simpa using ho.alloc _, hbx⟩
      refine (ord_sort base g w2.heap.size cap es.length es.toArray _ hR h2 (by omega) (by omega)).mono ?_
      rintro e w' ⟨rfl, hR', hG⟩
      have hl1 := Stb.stab_law leE_total leE_trans es.toArray
      have ha : (Stb.stab (ltOf cfE) es.toArray es.length).toList = Stb.isort leE es := by
        have h3 : es.toArray.size = es.length := by simp
        rw [h3] at hl1
        exact hl1
      have hle : (Stb.isort leE es).length = es.length := isort_lengthK _ _
      refine ⟨rfl, ?_, ⟨hG.os, hG.tape, hG.output, by have := hG.size; omega, fun k hk => hG.block k (by omega) (fun e => by injection e with e; omega)⟩, hR'.box⟩
      have := hR'.own
      rw [ha] at this
      rw [hle]
      exact this
  · have hsort : Stb.isort leE es = es := by
      match es, h2 with
      | [], _ => rfl
      | [x], _ => rfl
      | _ :: _ :: _, h => exact absurd (by simp) h
    rw [hsort]
    obtain ⟨a, c, rfl⟩ := own_slice ho
    have key : ∀ f, Tryz.prog.funcs.findIdx? (·.name == "internal/reflectlite" ++ ".Swapper$" ++ toString (swapperK es.length ieE 25)) = some f → Calls Tryz.prog 65 #[.iface 22 (.slice a es.length c), .func (.func 66) #[] #[.pointer (some ⟨w2.heap.size, 0, none⟩)]] (w2.alloc (.cells #[.slice a es.length c] 22)) fun e w' =>
      e = .returned (.tuple #[]) ∧ (w'.ownsRow base 24 7 (.slice a es.length c) es.length (flE es) ∧ Below base (w2.alloc (.cells #[.slice a es.length c] 22)) w' ∧ w'.heap[w2.heap.size]? = some (.cells #[.slice a es.length c] 22 (0, 0))) := fun f hf => by
      refine (Any.sort_SliceStable_tiny Tryz.stabL 22 24 itE ieE (by kernel_rfl) (by kernel_rfl) (by kernel_rfl) ieE_is 25 (fun _ => by kernel_rfl) a es.length c (by omega) f hf _ _ _ _).mono ?_
      rintro e w' ⟨rfl, os, rfl⟩
      have hbl := below_grow0 (w2.alloc (.cells #[.slice a es.length c] 22)) os
      exact ⟨rfl, own_below (ho.alloc _) hbl, hbl.mono (by omega), (hbl.block _ (by omega)).trans hbx⟩
    have : es.length = 0 ∨ es.length = 1 := by omega
    rcases this with h | h
    · exact key 125 (by rw [h]; kernel_rfl)
    · exact key 126 (by rw [h]; kernel_rfl)
set_option maxHeartbeats 1000000 in
set_option maxRecDepth 100000 in
theorem ordered_any (v : Value) (es : List Evt) (w : World) (h : RdE w.heap.size w v es) (hl : es.length ≤ 1000) :
    Calls Tryz.prog 35 #[v] w fun e w' => ∃ v', e = .returned v' ∧ w'.ownsRow w.heap.size 24 7 v' (Stb.isort leE es).length (flE (Stb.isort leE es)) ∧ Below w.heap.size w w' := by
  obtain ⟨i0, hinf, hiz, his, hib⟩ := info_parts info_evt
  have HC := Lib.hid (fun v2 w2 ho hb => ord_call w.heap.size v2 es w2 ho hb hl)
  rcases h with ⟨rfl, rfl⟩ | ⟨b, off, cap, rfl, hb, hc⟩
  · have hc1 := HC.out _ (w.alloc (.cells #[] 24)) (own_empty_e w w.heap.size _ 7 (Nat.le_refl _)) (by simp)
    rw [World.size_alloc] at hc1
    have HC1 := Lib.hid hc1
    clear hc1 HC
    go_enter Tryz.func35, Tryz.ntmps35
    go_wp2_with (first
      | (at_builtin; refine wpList_append_own_none rfl (.tmp 4) (.tmp 5) 22 rfl w.heap.size 24 i0 7 Tryz.underlying22 hinf _ 0 [] rfl (own_empty_e _ _ _ _ (Nat.le_refl _)) rfl ?_)
      | (go_at_call 65; refine HC1.out.mono ?_; rintro e w4 ⟨rfl, ho4, hb4, hx4⟩; have q4 : w4.cell? ⟨w.heap.size + 1, 0, none⟩ = some (.slice (some ⟨w.heap.size, 0, none⟩) 0 0) := by simp only [World.cell?, hx4]; rfl))
    go_ret
    exact ⟨_, rfl, ho4, (((Below.refl _ w).new _).new _).trans hb4⟩
  · have HCS := Lib.hid (rdE_cells (RdE.below (show RdE w.heap.size w (.slice (some ⟨b, off, none⟩) es.length cap) es from .inr ⟨b, off, cap, rfl, hb, hc⟩) ((Below.refl _ w).new (.cells #[] 24))))
    clear hc
    go_enter Tryz.func35, Tryz.ntmps35
    go_wp2_with (first
      | (at_builtin; refine wpList_append_own _ rfl (.tmp 4) (.tmp 5) 22 rfl w.heap.size 24 i0 (.agg #[.int .i64 0, .string ⟨#[]⟩, .int .i64 0, .int .i64 0, .int .i64 0, .int .i64 0, .int .i64 0]) 7 64 Tryz.underlying22 hinf hiz his hib rfl (by decide) _ 0 [] rfl (own_empty_e _ _ _ _ (Nat.le_refl _)) ⟨b, off, none⟩ es.length cap (flE es) rfl (flE_len es) HCS.out (one_flE es) (by unfold maxLen; omega) (by omega) (by simp) ?_; intro v2 w2 hown2 hg2 _; have hb2 := ((Below.refl _ w).new (.cells #[] 24)).owngrown (own_empty_e w _ 24 7 (Nat.le_refl _)) hg2 (by simp); rw [Nat.zero_add, List.nil_append] at hown2; obtain ⟨a2, c2, rfl⟩ := own_slice hown2)
      | (go_at_call 65; refine (HC.out _ w2 hown2 hb2.size).mono ?_; rintro e w4 ⟨rfl, ho4, hb4, hx4⟩; have q4 : w4.cell? ⟨w2.heap.size, 0, none⟩ = some (.slice a2 es.length c2) := by simp only [World.cell?, hx4]; rfl))
    go_ret
    exact ⟨_, rfl, ho4, (hb2.new _).trans hb4⟩
end Go.Proofs.YtpbbbiifeihkaaaGreatDoor
