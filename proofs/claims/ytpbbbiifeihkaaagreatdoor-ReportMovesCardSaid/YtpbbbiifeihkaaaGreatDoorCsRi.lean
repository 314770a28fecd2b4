/- items: the items of events, each once. -/
import Derived.Test.YtpbbbiifeihkaaaGreatDoorCsPa
import Derived.Deep.QuietTactic
import Derived.BigQuiet
namespace Go.Proofs.YtpbbbiifeihkaaaGreatDoor
open Go.RowKit
open Go.Maps (Keyed)
set_option linter.unusedVariables false

theorem oneS (s : ByteArray) : ∀ u ∈ [Value.string s], u.oneCell' = true := by intro u hu; simp at hu; subst hu; rfl
theorem infoS : (Tryz.prog.info? 9).map (fun i => (i.zero, i.size, i.bytes)) = some (some (.string ⟨#[]⟩), 1, 16) := by kernel_rfl
theorem ba_list (z : ByteArray) : z.toList = z.data.toList := Go.ByteArray.toList_eq z
/-- Is there one that reads so? -/
def hasK (xs : List ByteArray) (k : List UInt8) : Bool := xs.any fun x => decide (x.data.toList = k)
set_option maxHeartbeats 1000000 in
set_option maxRecDepth 100000 in
theorem indexS_any (a : Option Addr) (c : Nat) (xs : List ByteArray) (s : ByteArray) (w : World) (hl : xs.length ≤ 100000) (h : Rd w a (xs.map Value.string)) :
    Calls Tryz.prog 92 #[.slice a xs.length c, .string s] w fun e w' => ∃ z : Int, e = .returned (.int .i64 z) ∧ decide (0 ≤ z) = hasK xs s.data.toList ∧ w' = w := by
  have H := Lib.hid h
  clear h
  go_enter Tryz.func92, Tryz.ntmps92
  go_wp2
  go_loopg [8] xs.length (fun kx i wr => ∃ k : Nat, k ≤ xs.length ∧ i = .int .i64 k ∧ xs.length - k ≤ kx ∧ Hid (∀ j (hj : j < k) (h2 : j < xs.length), xs[j].data.toList ≠ s.data.toList) ∧ wr = w)
  case atStart => exact ⟨0, by omega, rfl, by omega, (show Hid _ from fun j hj => absurd hj (by omega)), rfl⟩
  case round =>
    obtain ⟨k, hk, rfl, hkx, HN, rfl⟩ := hrel
    by_cases hlt : k < xs.length
    · have hltz : (k : Int) < (xs.length : Int) := by omega
      obtain ⟨b, off, rfl, c0⟩ := H.out.strs k hlt
      have hx' : xs.getD k ByteArray.empty = xs[k] := by simp [List.getD, hlt]
      rw [hx'] at c0
      clear hx'
      obtain ⟨x, hx⟩ : ∃ x, x = xs[k] := ⟨_, rfl⟩
      rw [← hx] at c0
      have HX := Lib.hid hx
      clear hx
      by_cases he : x.data.toList = s.data.toList
      · have heb : (s.toList == x.toList) = true := by rw [ba_list, ba_list, he]; simp
        have HE := Lib.hid he
        clear he
        go_wp2
        refine bodyPost_ret (results_tmp rfl _ _ _) rfl ?_
        refine ⟨k, rfl, ?_, rfl⟩
        rw [show hasK xs s.data.toList = true from List.any_eq_true.2 ⟨xs[k], List.getElem_mem hlt, by rw [← HX.out, HE.out]; simp⟩]
        simp
      · have heb : (s.toList == x.toList) = false := by rw [ba_list, ba_list]; simpa using fun h : s.data = x.data => he (by rw [h])
        have HE := Lib.hid he
        clear he
        go_wp2
        go_roundg (xs.length - (k + 1))
        case measure => omega
        case rel =>
          refine ⟨k + 1, hlt, by first | rfl | go_num | (congr 1; omega), Nat.le_refl _, (show Hid _ from fun j hj h2 => ?_), rfl⟩
          by_cases hjk : j = k
          · subst hjk; rw [← HX.out]; exact HE.out
          · exact HN.out j (by omega) h2
    · have hltz : ¬ (k : Int) < (xs.length : Int) := by omega
      go_wp2
      go_ret
      refine ⟨-1, rfl, ?_, rfl⟩
      rw [show hasK xs s.data.toList = false from ?_]
      · rfl
      · rw [hasK, List.any_eq_false]
        intro x hx
        obtain ⟨j, hj, rfl⟩ := List.getElem_of_mem hx
        simpa using HN.out j (by omega) hj
set_option maxHeartbeats 1000000 in
theorem containsT_any (a : Option Addr) (c : Nat) (xs : List ByteArray) (s : ByteArray) (w : World) (hl : xs.length ≤ 100000) (h : Rd w a (xs.map Value.string)) :
    Calls Tryz.prog 60 #[.slice a xs.length c, .string s] w fun e w' => e = .returned (.bool (hasK xs s.data.toList)) ∧ w' = w := by
  have H := Lib.hid (indexS_any a c xs s w hl h)
  clear h
  go_enter Tryz.func60, Tryz.ntmps60
  go_wp2_with (go_at_call 92; refine H.out.mono ?_; rintro e w2 ⟨z, rfl, hz, hw2⟩; rw [hw2]; clear hw2; replace hz := Lib.hid hz)
  go_ret
  exact ⟨by rw [← hz.out]; first | rfl | simp, rfl⟩
/-- The items of events, each once. -/
def itemS (out : List ByteArray) (e : Evt) : List ByteArray := if hasK out e.item.data.toList then out else out ++ [e.item]
def itemF (es : List Evt) : List ByteArray := es.foldl itemS []
theorem itemF_snoc (es : List Evt) (e : Evt) : itemF (es ++ [e]) = itemS (itemF es) e := by simp [itemF]
theorem itemS_len (out : List ByteArray) (e : Evt) : (itemS out e).length ≤ out.length + 1 := by unfold itemS; split <;> simp
theorem itemF_len (es : List Evt) : (itemF es).length ≤ es.length := by
  have : ∀ (es : List Evt) (out : List ByteArray), (es.foldl itemS out).length ≤ out.length + es.length := by
    intro es
    induction es with
    | nil => intro out; simp
    | cons e es ih => intro out; rw [List.foldl_cons]; have := ih (itemS out e); have := itemS_len out e; simp only [List.length_cons]; omega
  have := this es []
  simpa [itemF] using this
theorem itemF_mem (es : List Evt) : ∀ s, s ∈ itemF es → ∃ e ∈ es, e.item = s := by
  have : ∀ (es : List Evt) (out : List ByteArray) s, s ∈ es.foldl itemS out → s ∈ out ∨ ∃ e ∈ es, e.item = s := by
    intro es
    induction es with
    | nil => intro out s h; exact .inl h
    | cons e es ih =>
      intro out s h
      rw [List.foldl_cons] at h
      rcases ih _ s h with h | ⟨x, hx, h⟩
      · unfold itemS at h
        split at h
        · exact .inl h
        · rcases List.mem_append.1 h with h | h
          · exact .inl h
          · exact .inr ⟨e, by simp, by simpa using (List.mem_singleton.1 h).symm⟩
      · exact .inr ⟨x, List.mem_cons_of_mem _ hx, h⟩
  intro s h
  rcases this es [] s h with h | h
  · cases h
  · exact h
set_option maxHeartbeats 2000000 in
set_option maxRecDepth 100000 in
theorem items_any (hi : Nat) (v : Value) (es : List Evt) (w : World) (hr : RdE hi w v es) (hh : hi ≤ w.heap.size) (hlen : es.length ≤ 1000) :
    Calls Tryz.prog 30 #[v] w fun e w' => ∃ v', e = .returned v' ∧ w'.ownsRow w.heap.size 9 1 v' (itemF es).length ((itemF es).map Value.string) ∧ Below w.heap.size w w' := by
  obtain ⟨a, c, rfl⟩ := hr.shape
  have HR := Lib.hid hr
  obtain ⟨i0, hinf, hiz, his, hib⟩ := info_parts infoS
  clear hr
  go_enter Tryz.func30, Tryz.ntmps30
  go_wp2
  go_loopg [3, 4] es.length (fun kx v3 i wr => ∃ k : Nat, k ≤ es.length ∧ i = .int .i64 k ∧ es.length - k ≤ kx ∧ wr.ownsRow w.heap.size 9 1 v3 (itemF (es.take k)).length ((itemF (es.take k)).map Value.string) ∧ Below w.heap.size w wr)
  case atStart => exact ⟨0, by omega, rfl, by omega, World.ownsRow_nil _ _ _ _, Below.refl _ _⟩
  case round =>
    obtain ⟨k, hk, rfl, hkx, ho, hb⟩ := hrel
    obtain ⟨va, vc, rfl, hrd, -, -⟩ := rd_of_own ho
    by_cases hlt : k < es.length
    · have hltz : (k : Int) < (es.length : Int) := by omega
      obtain ⟨b, off, rfl, hbh, h7⟩ := HR.out.seven k hlt
      obtain ⟨-, c1, -⟩ := h7 wr (hb.mono hh)
      have hbs := (hb.mono hh).size
      have hbw := hb.size
      have HTK : Hid (itemF (es.take (k + 1)) = itemS (itemF (es.take k)) es[k]) := by show _ = _; rw [List.take_succ_eq_append_getElem hlt, itemF_snoc]
      have hnl := itemF_len (es.take k)
      rw [List.length_take] at hnl
      have hnl2 : (itemF (es.take k)).length ≤ 1000 := by omega
      generalize itemF (es.take k) = out at ho HTK hnl2 hrd ⊢
      clear hnl h7
      generalize es[k] = e at c1 HTK
      have HC := Lib.hid (containsT_any va vc out e.item wr (by omega) hrd)
      obtain ⟨q, hq⟩ : ∃ q, q = hasK out e.item.data.toList := ⟨_, rfl⟩
      rw [← hq] at HC
      have HQ := Lib.hid hq
      have HO := Lib.hid ho
      have HBR := Lib.hid hb
      clear ho hb hrd hq
      generalize hes : e.item = s at c1 HC
      have HES := Lib.hid hes
      clear hes
      obtain ⟨m, hm⟩ : ∃ m, m = out.length := ⟨_, rfl⟩
      have HM := Lib.hid hm
      rw [← hm] at HO HC hnl2
      simp only [← hm]
      clear hm
      cases q with
      | true =>
        go_wp2_with (go_at_call 60; refine HC.out.mono ?_; rintro e w5 ⟨rfl, hw5⟩; rw [hw5]; clear hw5)
        go_roundg (es.length - (k + 1))
        case measure => omega
        case rel =>
          refine ⟨k + 1, hlt, by first | rfl | go_num | (congr 1; omega), Nat.le_refl _, ?_, HBR.out⟩
          rw [HTK.out, itemS, if_pos HQ.out.symm]
          rw [← HM.out]
          exact HO.out
      | false =>
        have ho5 := HO.out
        go_wp2_with (first
          | (go_at_call 60; refine HC.out.mono ?_; rintro e w5 ⟨rfl, hw5⟩; rw [hw5]; clear hw5)
          | (at_builtin; refine app_one (w := wr) rfl (.tmp 19) (.tmp 25) 82 rfl w.heap.size 9 i0 (.string ⟨#[]⟩) 1 16 Tryz.underlying82 hinf hiz his hib rfl (by decide) _ _ _ ho5 rfl [.string s] rfl rfl (oneS _) (by unfold maxLen; omega) (by omega) (by omega) ?_; intro v2 w2 hown2 hg2))
        obtain ⟨xa, xc, rfl⟩ := own_slice hown2
        have hb6 : Below w.heap.size w w2 := HBR.out.owngrown HO.out hg2
        have HO6 := Lib.hid hown2
        clear hown2 hg2 ho5
        go_wp2
        go_roundg (es.length - (k + 1))
        case measure => omega
        case rel =>
          refine ⟨k + 1, hlt, by first | rfl | go_num | (congr 1; omega), Nat.le_refl _, ?_, hb6⟩
          rw [HTK.out, itemS, if_neg (by rw [← HQ.out]; simp), List.length_append, List.map_append, HES.out, ← HM.out]
          exact HO6.out
    · have hltz : ¬ (k : Int) < (es.length : Int) := by omega
      have hke : k = es.length := by omega
      subst hke
      rw [List.take_length] at ho
      have HO := Lib.hid ho
      clear ho hrd
      rw [List.take_length]
      go_wp2
      go_ret
      exact ⟨_, rfl, HO.out, hb⟩
end Go.Proofs.YtpbbbiifeihkaaaGreatDoor
