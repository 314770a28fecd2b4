/- The book's write, plainly walked up to its drawn region. -/
import Derived.Test.YtpbbbiifeihkaaaDoorBkW
import Derived.Deep.RegionWith
namespace Go.Proofs.YtpbbbiifeihkaaaDoor
open Go.RowKit
set_option linter.unusedVariables false

theorem slice_clipV (a : Option Addr) (n cap : Nat) (hc : n ≤ cap) (w : World) :
    (Instr.slice 25 (.slice a n cap) none (some (.int .i64 n)) (some (.int .i64 n))).run Tryd.prog w = .ok (.slice a n n) w := by
  cases a with
  | none => go_simp
  | some ad => go_simp
theorem clipV_any (a : Option Addr) (n cap : Nat) (hc : n ≤ cap) (w : World) :
    Calls Tryd.prog 40 #[.slice a n cap] w fun e w' => e = .returned (.slice a n n) ∧ w' = w := by
  have h := fun W => slice_clipV a n cap hc W
  go_enter Tryd.func40, Tryd.ntmps40
  go_wp2
  go_ret
  exact ⟨rfl, rfl⟩
theorem zerosV (n : Nat) : (Builtin.zeroCells (Value.cells (.agg #[.int .i64 0, .string ⟨#[]⟩, .int .i64 0, .int .i64 0, .int .i64 0, .int .i64 0, .int .i64 0, .int .i64 0, .int .i64 0])) n).size = n * 9 := by
  simp [Builtin.zeroCells, Value.cells]
/-- A new row of the call's own. -/
theorem own_fresh (w : World) (T : TypeId) (K n cap : Nat) (vs : List Value) (Z : Array Value) (hv : vs.length = n * K) (hz : Z.size = (cap - n) * K) (hn : n ≤ cap) (hm : cap ≤ maxLen) (base : Nat) (hB : base ≤ w.heap.size) :
    (w.drew.alloc (.cells (vs.toArray ++ Z) T)).ownsRow base T K (.slice (some ⟨w.heap.size, 0, none⟩) n cap) n vs := by
  refine ⟨hv, .inr ⟨w.heap.size, cap, _, rfl, hB, World.alloc_heap_new w.drew _, hn, hm, ?_, ?_⟩⟩
  · rw [Array.size_append, List.size_toArray, hv, hz, ← Nat.add_mul, show n + (cap - n) = cap by omega]
  · rw [Array.toList_append, List.take_append_of_le_length (by simp [hv])]
    simp [← hv]
theorem rdV_cells {w : World} {ad : Addr} {ls : List Ver} (h : RdV w (some ad) ls) (j : Nat) (u : Value) (hu : (flV ls)[j]? = some u) : w.cell? (ad.add j) = some u := by
  have hj : j < ls.length * 9 := by have := (List.getElem?_eq_some_iff.1 hu).1; rwa [flK_len ver_len] at this
  have hk : j / 9 < ls.length := by omega
  obtain ⟨b, off, e1, -, hc⟩ := h (j / 9) hk
  injection e1 with e1
  subst e1
  have hg := flK_get ver_len ls (j / 9) hk (j % 9) (by omega)
  rw [show j / 9 * 9 + j % 9 = j by omega] at hg
  have := hc (j % 9) u (by rw [← hg]; exact hu)
  have e0 : (⟨b, off, none⟩ : Addr).add j = ⟨b, off + j / 9 * 9 + j % 9, none⟩ := by
    simp only [Addr.add]
    split <;> (simp <;> omega)
  rw [e0]; exact this
/-- 'append(s, v)', s a full slice of versions: all is laid anew. -/
theorem run_appV {w : World} (ty : TypeId) (a : Option Addr) (ls : List Ver) (v : Ver) (h : RdV w a ls) (h0 : a = none → ls = []) (ad : Addr) (c2 : Nat) (hr : ∀ j u, v.cells[j]? = some u → w.cell? (ad.add j) = some u) (hb : ls.length ≤ 100000) (base : Nat) (hB : base ≤ w.heap.size) :
    ∃ v' w', (Builtin.append_ #[25, 25] ty #[.slice a ls.length ls.length, .slice (some ad) 1 c2]).run Tryd.prog w = .ok v' w' ∧ w'.ownsRow base 54 9 v' (ls.length + 1) (flV (ls ++ [v])) ∧ Below w.heap.size w w' := by
  obtain ⟨i0, hi, hiz, his, hib⟩ := info_parts info_ver
  have hml : (100000 : Nat) + 1 ≤ maxLen := by unfold maxLen; omega
  have hfv : flV (ls ++ [v]) = flV ls ++ v.cells := by simp [flV, flK]
  cases a with
  | none =>
    have := h0 rfl
    subst this
    have hrun := run_append_nil (P := Tryd.prog) w 25 ty 54 i0 _ Tryd.underlying25 hi hiz ad 1 c2 v.cells (by rw [his]; rfl) hr (by omega) (by omega) (by rw [hib]; omega)
    refine ⟨_, _, hrun, ?_, (Below.refl _ w).drew.alloc (Nat.le_refl _) _⟩
    rw [hfv]
    exact own_fresh w _ 9 1 _ v.cells _ rfl (zerosV _) (grownCap_ge _ _ _ _) (grownCap_le_maxLen _ _ _ _ (by omega)) base hB
  | some b =>
    have hrun := run_append_grow (P := Tryd.prog) w 25 ty 54 i0 _ Tryd.underlying25 hi hiz b ls.length ls.length (flV ls) (by rw [flK_len ver_len, his]) (rdV_cells h) ad 1 c2 v.cells (by rw [his]; rfl) hr (by omega) (by omega) (growslice_fits (by omega) (by rw [hib]; omega))
    refine ⟨_, _, hrun, ?_, (Below.refl _ w).drew.alloc (Nat.le_refl _) _⟩
    rw [hfv]
    have := own_fresh w 54 9 (ls.length + 1) (grownCap w (ls.length + 1) ls.length 54) (flV ls ++ v.cells) _ (by rw [List.length_append, flK_len ver_len, ver_len]; omega) (zerosV _) (grownCap_ge _ _ _ _) (grownCap_le_maxLen _ _ _ _ (by omega)) base hB
    simpa using this
theorem wp_appV {w : World} {o : Oper} {a : Act} {K : Act → World → Prop} {Q : Exit → Act → World → Prop} (s x : Operand)
    (ho : o.op = .call { callee := .builtin .append, args := #[s, x], argTypes := #[25, 25] }) (sa : Option Addr) (ls : List Ver) (v : Ver) (hs : a.eval s = .slice sa ls.length ls.length) (h : RdV w sa ls) (h0 : sa = none → ls = [])
    (ad : Addr) (c2 : Nat) (hx : a.eval x = .slice (some ad) 1 c2) (hr : ∀ j u, v.cells[j]? = some u → w.cell? (ad.add j) = some u) (hb : ls.length ≤ 100000) (base : Nat) (hB : base ≤ w.heap.size)
    (hk : ∀ v' w', w'.ownsRow base 54 9 v' (ls.length + 1) (flV (ls ++ [v])) → Below w.heap.size w w' → K (a.put o.dst v') w') : o.wp Tryd.prog a w K Q := by
  obtain ⟨v', w', hrun, h2, h3⟩ := run_appV o.type sa ls v h h0 ad c2 hr hb base hB
  unfold Oper.wp execOp
  simp only [ho, resolve, invoke, builtin, Sem.run_bind, Sem.run_pure, Result.andThen_ok, List.map_toArray, List.map_cons, List.map_nil, hs, hx, hrun]
  exact hk v' w' h2 h3
theorem own_capV {w : World} {base e size n c : Nat} {a : Option Addr} {xs : List Value} (h : w.ownsRow base e size (.slice a n c) n xs) : n ≤ c := by
  rcases h.2 with ⟨e0, h0⟩ | ⟨g, cap, cur, e1, -, -, hn, -⟩
  · omega
  · injection e1 with e1 e2 e3; omega
end Go.Proofs.YtpbbbiifeihkaaaDoor
