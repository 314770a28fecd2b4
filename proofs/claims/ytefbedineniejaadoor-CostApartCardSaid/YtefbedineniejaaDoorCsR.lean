/- Joined: CsQ, CsR. -/
import Derived.Test.YtefbedineniejaaDoorCsP
import Derived.Deep.QuietTactic
import Derived.BigQuiet

/- CsQ: Events numbered. -/
section
namespace Go.Proofs.YtefbedineniejaaDoor
open Go.RowKit
open Go.Maps (Keyed)
set_option linter.unusedVariables false

/-- Those that may be, numbered from 1 on. -/
def numS (out : List Evt) (e : Evt) : List Evt := if e.right then out ++ [⟨out.length + 1, e.item, e.kind, e.qty, e.price, e.ofn, e.day⟩] else out
def numF (es : List Evt) : List Evt := es.foldl numS []
theorem numF_snoc (es : List Evt) (e : Evt) : numF (es ++ [e]) = numS (numF es) e := by simp [numF]
theorem numS_len (out : List Evt) (e : Evt) : (numS out e).length ≤ out.length + 1 := by unfold numS; split <;> simp
theorem numF_len (es : List Evt) : (numF es).length ≤ es.length := by
  have : ∀ (es out : List Evt), (es.foldl numS out).length ≤ out.length + es.length := by
    intro es
    induction es with
    | nil => intro out; simp
    | cons e es ih => intro out; rw [List.foldl_cons]; have := ih (numS out e); have := numS_len out e; simp only [List.length_cons]; omega
  have := this es []
  simpa [numF] using this
theorem new_evt (w : World) (x : Evt) {j : Nat} {u : Value} (h : x.cells[j]? = some u) : (w.alloc (.cells #[.int .i64 x.id, .string x.item, .int .i64 x.kind, .int .i64 x.qty, .int .i64 x.price, .int .i64 x.ofn, .int .i64 x.day] 50)).cell? ((⟨w.heap.size, 0, none⟩ : Addr).add j) = some u := by
  have e0 : (⟨w.heap.size, 0, none⟩ : Addr).add j = ⟨w.heap.size, j, none⟩ := by simp [Addr.add]; omega
  rw [e0]
  simp only [World.cell?, World.alloc_heap_new]
  simpa [Evt.cells] using h
set_option maxHeartbeats 2000000 in
set_option maxRecDepth 100000 in
theorem numbered_any (hi : Nat) (v : Value) (es : List Evt) (w : World) (hr : RdE hi w v es) (hh : hi ≤ w.heap.size) (hsz : ∀ e ∈ es, e.item.size ≤ 1000000) (hlen : es.length ≤ 1000) :
    Calls Tryd.prog 16 #[v] w fun e w' => ∃ v', e = .returned v' ∧ w'.ownsRow w.heap.size 50 7 v' (numF es).length (flE (numF es)) ∧ Below w.heap.size w w' := by
  obtain ⟨a, c, rfl⟩ := hr.shape
  have HR := Lib.hid hr
  have HSZ := Lib.hid hsz
  obtain ⟨i0, hinf, hiz, his, hib⟩ := info_parts info_evt
  clear hr hsz
  go_enter Tryd.func16, Tryd.ntmps16
  go_wp2
  go_loopg [3, 4] es.length (fun kx v3 i wr => ∃ k : Nat, k ≤ es.length ∧ i = .int .i64 k ∧ es.length - k ≤ kx ∧ wr.ownsRow w.heap.size 50 7 v3 (numF (es.take k)).length (flE (numF (es.take k))) ∧ Below w.heap.size w wr)
  case atStart => exact ⟨0, by omega, rfl, by omega, World.ownsRow_nil _ _ _ _, Below.refl _ _⟩
  case round =>
    obtain ⟨k, hk, rfl, hkx, ho, hb⟩ := hrel
    obtain ⟨va, vc, rfl⟩ := own_slice ho
    by_cases hlt : k < es.length
    · have hltz : (k : Int) < (es.length : Int) := by omega
      obtain ⟨b, off, rfl, hbh, h7⟩ := HR.out.seven k hlt
      obtain ⟨c0, c1, c2, c3, c4, c5, c6⟩ := h7 wr (hb.mono hh)
      have H7 := Lib.hid h7
      have HTK : Hid (numF (es.take (k + 1)) = numS (numF (es.take k)) es[k]) := by show _ = _; rw [List.take_succ_eq_append_getElem hlt, numF_snoc]
      have hnl := numF_len (es.take k)
      rw [List.length_take] at hnl
      have hnl2 : (numF (es.take k)).length ≤ 1000 := by omega
      have hs1 := HSZ.out es[k] (List.getElem_mem hlt)
      generalize numF (es.take k) = out at ho HTK hnl2 ⊢
      clear hnl h7
      generalize es[k] = e at c0 c1 c2 c3 c4 c5 c6 H7 HTK hs1
      obtain ⟨evr, hevr⟩ : ∃ evr, evr = e.right := ⟨_, rfl⟩
      have HEV := Lib.hid hevr
      have HRT : Hid (∀ W, Calls Tryd.prog 47 #[e.agg] W (Gives (.bool evr) W)) := Lib.hid (fun W => by rw [hevr]; exact right_any e.id e.item e.kind e.qty e.price e.ofn e.day W hs1)
      clear hevr
      obtain ⟨i, s, kd, q, p, o, d⟩ := e
      simp only [Evt.agg] at HRT
      simp only at c0 c1 c2 c3 c4 c5 c6
      have HO := Lib.hid ho
      have HBR := Lib.hid hb
      clear ho hb
      cases evr with
      | false =>
        go_wp2_with (go_at_call 47; refine (HRT.out _).mono ?_; rintro e w5 ⟨rfl, hb5⟩)
        go_roundg (es.length - (k + 1))
        case measure => omega
        case rel =>
          refine ⟨k + 1, hlt, by first | rfl | go_num | (congr 1; omega), Nat.le_refl _, ?_, HBR.out.step hb5⟩
          rw [HTK.out, numS, if_neg (by rw [← HEV.out]; simp)]
          exact own_below HO.out hb5
      | true =>
        obtain ⟨m, hm⟩ : ∃ m, m = out.length := ⟨_, rfl⟩
        have HM := Lib.hid hm
        rw [← hm] at HO ⊢ hnl2
        clear hm
        go_wp2_with (first
          | (go_at_call 47; refine (HRT.out _).mono ?_; rintro e w5 ⟨rfl, hb5⟩; obtain ⟨c0, c1, c2, c3, c4, c5, c6⟩ := H7.out w5 ((HBR.out.step hb5).mono hh); have ho5 := own_below HO.out hb5; have hbl5 : b < w5.heap.size := cell_blk c0; have hbs5 := (HBR.out.step hb5).size)
          | (at_builtin; refine wpList_append_own _ rfl (.tmp 25) (.tmp 27) 37 rfl w.heap.size 50 i0 (.agg #[.int .i64 0, .string ⟨#[]⟩, .int .i64 0, .int .i64 0, .int .i64 0, .int .i64 0, .int .i64 0]) 7 64 Tryd.underlying37 hinf hiz his hib rfl (by decide) _ m (flE out) rfl ((ho5.alloc _).alloc _) ⟨w5.heap.size + 1, 0, none⟩ 1 1 (Evt.cells ⟨m + 1, s, kd, q, p, o, d⟩) rfl rfl ?cells (one_evt _) (by unfold maxLen; omega) (by omega) (by simp; omega) ?app))
        case cells =>
          intro j u hj
          have := new_evt (w5.alloc (.cells #[.int .i64 (m + 1), .string s, .int .i64 kd, .int .i64 q, .int .i64 p, .int .i64 o, .int .i64 d] 50)) ⟨m + 1, s, kd, q, p, o, d⟩ hj
          rw [World.size_alloc] at this
          exact this
        case app =>
          intro v' w6 ho6 hg6 _
          obtain ⟨xa, xc, rfl⟩ := own_slice ho6
          have hb6 : Below w.heap.size w w6 := (((HBR.out.step hb5).new _).new _).owngrown ((ho5.alloc _).alloc _) hg6
          have HO6 := Lib.hid ho6
          clear ho6 hg6
          go_wp2
          go_roundg (es.length - (k + 1))
          case measure => omega
          case rel =>
            refine ⟨k + 1, hlt, by first | rfl | go_num | (congr 1; omega), Nat.le_refl _, ?_, hb6⟩
            rw [HTK.out, numS, if_pos (by rw [← HEV.out]), flE_snoc, List.length_append]
            have := HO6.out
            rw [HM.out] at this ⊢
            exact this
    · have hltz : ¬ (k : Int) < (es.length : Int) := by omega
      have hke : k = es.length := by omega
      subst hke
      rw [List.take_length] at ho
      have HO := Lib.hid ho
      clear ho
      go_wp2
      go_ret
      refine ⟨_, rfl, ?_, hb⟩
      exact HO.out
end Go.Proofs.YtefbedineniejaaDoor
end

/- CsR: Which items there are; events cloned; layers alike; which event is late. -/
section
namespace Go.Proofs.YtefbedineniejaaDoor
open Go.RowKit
open Go.Maps (Keyed)
set_option linter.unusedVariables false

theorem oneS (s : ByteArray) : ∀ u ∈ [Value.string s], u.oneCell' = true := by intro u hu; simp at hu; subst hu; rfl
theorem infoS : (Tryd.prog.info? 9).map (fun i => (i.zero, i.size, i.bytes)) = some (some (.string ⟨#[]⟩), 1, 16) := by kernel_rfl
theorem ba_list (z : ByteArray) : z.toList = z.data.toList := Go.ByteArray.toList_eq z
/-- Is there one that reads so? -/
def hasK (xs : List ByteArray) (k : List UInt8) : Bool := xs.any fun x => decide (x.data.toList = k)
set_option maxHeartbeats 1000000 in
set_option maxRecDepth 100000 in
theorem indexS_any (a : Option Addr) (c : Nat) (xs : List ByteArray) (s : ByteArray) (w : World) (hl : xs.length ≤ 100000) (h : Rd w a (xs.map Value.string)) :
    Calls Tryd.prog 60 #[.slice a xs.length c, .string s] w fun e w' => ∃ z : Int, e = .returned (.int .i64 z) ∧ decide (0 ≤ z) = hasK xs s.data.toList ∧ w' = w := by
  have H := Lib.hid h
  clear h
  go_enter Tryd.func60, Tryd.ntmps60
  go_wp2
  go_loopg [8] xs.length (fun kx i wr => ∃ k : Nat, k ≤ xs.length ∧ i = .int .i64 k ∧ xs.length - k ≤ kx ∧ Hid (∀ j (hj : j < k) (h2 : j < xs.length), xs[j].data.toList ≠ s.data.toList) ∧ wr = w)
  case atStart => exact ⟨0, by omega, rfl, by omega, (show Hid _ from fun j hj => absurd hj (by omega)), rfl⟩
  case round =>
    obtain ⟨k, hk, rfl, hkx, HN, rfl⟩ := hrel
    by_cases hlt : k < xs.length
    · have hltz : (k : Int) < (xs.length : Int) := by omega
      obtain ⟨b, off, rfl, c0⟩ := H.out.strs k hlt
      have hx' : xs.getD k ByteArray.empty = xs[k] := by simp [List.getD, hlt]
      rw [hx'] at c0
      clear hx'
      obtain ⟨x, hx⟩ : ∃ x, x = xs[k] := ⟨_, rfl⟩
      rw [← hx] at c0
      have HX := Lib.hid hx
      clear hx
      by_cases he : x.data.toList = s.data.toList
      · have heb : (s.toList == x.toList) = true := by rw [ba_list, ba_list, he]; simp
        have HE := Lib.hid he
        clear he
        go_wp2
        refine bodyPost_ret (results_tmp rfl _ _ _) rfl ?_
        refine ⟨k, rfl, ?_, rfl⟩
        rw [show hasK xs s.data.toList = true from List.any_eq_true.2 ⟨xs[k], List.getElem_mem hlt, by rw [← HX.out, HE.out]; simp⟩]
        simp
      · have heb : (s.toList == x.toList) = false := by rw [ba_list, ba_list]; simpa using fun h : s.data = x.data => he (by rw [h])
        have HE := Lib.hid he
        clear he
        go_wp2
        go_roundg (xs.length - (k + 1))
        case measure => omega
        case rel =>
          refine ⟨k + 1, hlt, by first | rfl | go_num | (congr 1; omega), Nat.le_refl _, (show Hid _ from fun j hj h2 => ?_), rfl⟩
          by_cases hjk : j = k
          · subst hjk; rw [← HX.out]; exact HE.out
          · exact HN.out j (by omega) h2
    · have hltz : ¬ (k : Int) < (xs.length : Int) := by omega
      go_wp2
      go_ret
      refine ⟨-1, rfl, ?_, rfl⟩
      rw [show hasK xs s.data.toList = false from ?_]
      · rfl
      · rw [hasK, List.any_eq_false]
        intro x hx
        obtain ⟨j, hj, rfl⟩ := List.getElem_of_mem hx
        simpa using HN.out j (by omega) hj
set_option maxHeartbeats 1000000 in
theorem containsT_any (a : Option Addr) (c : Nat) (xs : List ByteArray) (s : ByteArray) (w : World) (hl : xs.length ≤ 100000) (h : Rd w a (xs.map Value.string)) :
    Calls Tryd.prog 39 #[.slice a xs.length c, .string s] w fun e w' => e = .returned (.bool (hasK xs s.data.toList)) ∧ w' = w := by
  have H := Lib.hid (indexS_any a c xs s w hl h)
  clear h
  go_enter Tryd.func39, Tryd.ntmps39
  go_wp2_with (go_at_call 60; refine H.out.mono ?_; rintro e w2 ⟨z, rfl, hz, hw2⟩; rw [hw2]; clear hw2; replace hz := Lib.hid hz)
  go_ret
  exact ⟨by rw [← hz.out]; first | rfl | simp, rfl⟩
/-- The items of events, each once. -/
def itemS (out : List ByteArray) (e : Evt) : List ByteArray := if hasK out e.item.data.toList then out else out ++ [e.item]
def itemF (es : List Evt) : List ByteArray := es.foldl itemS []
theorem itemF_snoc (es : List Evt) (e : Evt) : itemF (es ++ [e]) = itemS (itemF es) e := by simp [itemF]
theorem itemS_len (out : List ByteArray) (e : Evt) : (itemS out e).length ≤ out.length + 1 := by unfold itemS; split <;> simp
theorem itemF_len (es : List Evt) : (itemF es).length ≤ es.length := by
  have : ∀ (es : List Evt) (out : List ByteArray), (es.foldl itemS out).length ≤ out.length + es.length := by
    intro es
    induction es with
    | nil => intro out; simp
    | cons e es ih => intro out; rw [List.foldl_cons]; have := ih (itemS out e); have := itemS_len out e; simp only [List.length_cons]; omega
  have := this es []
  simpa [itemF] using this
theorem itemF_mem (es : List Evt) : ∀ s, s ∈ itemF es → ∃ e ∈ es, e.item = s := by
  have : ∀ (es : List Evt) (out : List ByteArray) s, s ∈ es.foldl itemS out → s ∈ out ∨ ∃ e ∈ es, e.item = s := by
    intro es
    induction es with
    | nil => intro out s h; exact .inl h
    | cons e es ih =>
      intro out s h
      rw [List.foldl_cons] at h
      rcases ih _ s h with h | ⟨x, hx, h⟩
      · unfold itemS at h
        split at h
        · exact .inl h
        · rcases List.mem_append.1 h with h | h
          · exact .inl h
          · exact .inr ⟨e, by simp, by simpa using (List.mem_singleton.1 h).symm⟩
      · exact .inr ⟨x, List.mem_cons_of_mem _ hx, h⟩
  intro s h
  rcases this es [] s h with h | h
  · cases h
  · exact h
set_option maxHeartbeats 2000000 in
set_option maxRecDepth 100000 in
theorem items_any (hi : Nat) (v : Value) (es : List Evt) (w : World) (hr : RdE hi w v es) (hh : hi ≤ w.heap.size) (hlen : es.length ≤ 1000) :
    Calls Tryd.prog 18 #[v] w fun e w' => ∃ v', e = .returned v' ∧ w'.ownsRow w.heap.size 9 1 v' (itemF es).length ((itemF es).map Value.string) ∧ Below w.heap.size w w' := by
  obtain ⟨a, c, rfl⟩ := hr.shape
  have HR := Lib.hid hr
  obtain ⟨i0, hinf, hiz, his, hib⟩ := info_parts infoS
  clear hr
  go_enter Tryd.func18, Tryd.ntmps18
  go_wp2
  go_loopg [3, 4] es.length (fun kx v3 i wr => ∃ k : Nat, k ≤ es.length ∧ i = .int .i64 k ∧ es.length - k ≤ kx ∧ wr.ownsRow w.heap.size 9 1 v3 (itemF (es.take k)).length ((itemF (es.take k)).map Value.string) ∧ Below w.heap.size w wr)
  case atStart => exact ⟨0, by omega, rfl, by omega, World.ownsRow_nil _ _ _ _, Below.refl _ _⟩
  case round =>
    obtain ⟨k, hk, rfl, hkx, ho, hb⟩ := hrel
    obtain ⟨va, vc, rfl, hrd, -, -⟩ := rd_of_own ho
    by_cases hlt : k < es.length
    · have hltz : (k : Int) < (es.length : Int) := by omega
      obtain ⟨b, off, rfl, hbh, h7⟩ := HR.out.seven k hlt
      obtain ⟨-, c1, -⟩ := h7 wr (hb.mono hh)
      have hbs := (hb.mono hh).size
      have hbw := hb.size
      have HTK : Hid (itemF (es.take (k + 1)) = itemS (itemF (es.take k)) es[k]) := by show _ = _; rw [List.take_succ_eq_append_getElem hlt, itemF_snoc]
      have hnl := itemF_len (es.take k)
      rw [List.length_take] at hnl
      have hnl2 : (itemF (es.take k)).length ≤ 1000 := by omega
      generalize itemF (es.take k) = out at ho HTK hnl2 hrd ⊢
      clear hnl h7
      generalize es[k] = e at c1 HTK
      have HC := Lib.hid (containsT_any va vc out e.item wr (by omega) hrd)
      obtain ⟨q, hq⟩ : ∃ q, q = hasK out e.item.data.toList := ⟨_, rfl⟩
      rw [← hq] at HC
      have HQ := Lib.hid hq
      have HO := Lib.hid ho
      have HBR := Lib.hid hb
      clear ho hb hrd hq
      generalize hes : e.item = s at c1 HC
      have HES := Lib.hid hes
      clear hes
      obtain ⟨m, hm⟩ : ∃ m, m = out.length := ⟨_, rfl⟩
      have HM := Lib.hid hm
      rw [← hm] at HO HC hnl2
      simp only [← hm]
      clear hm
      cases q with
      | true =>
        go_wp2_with (go_at_call 39; refine HC.out.mono ?_; rintro e w5 ⟨rfl, hw5⟩; rw [hw5]; clear hw5)
        go_roundg (es.length - (k + 1))
        case measure => omega
        case rel =>
          refine ⟨k + 1, hlt, by first | rfl | go_num | (congr 1; omega), Nat.le_refl _, ?_, HBR.out⟩
          rw [HTK.out, itemS, if_pos HQ.out.symm]
          rw [← HM.out]
          exact HO.out
      | false =>
        have ho5 := HO.out
        go_wp2_with (first
          | (go_at_call 39; refine HC.out.mono ?_; rintro e w5 ⟨rfl, hw5⟩; rw [hw5]; clear hw5)
          | (at_builtin; refine app_one (w := wr) rfl (.tmp 19) (.tmp 25) 45 rfl w.heap.size 9 i0 (.string ⟨#[]⟩) 1 16 Tryd.underlying45 hinf hiz his hib rfl (by decide) _ _ _ ho5 rfl [.string s] rfl rfl (oneS _) (by unfold maxLen; omega) (by omega) (by omega) ?_; intro v2 w2 hown2 hg2))
        obtain ⟨xa, xc, rfl⟩ := own_slice hown2
        have hb6 : Below w.heap.size w w2 := HBR.out.owngrown HO.out hg2
        have HO6 := Lib.hid hown2
        clear hown2 hg2 ho5
        go_wp2
        go_roundg (es.length - (k + 1))
        case measure => omega
        case rel =>
          refine ⟨k + 1, hlt, by first | rfl | go_num | (congr 1; omega), Nat.le_refl _, ?_, hb6⟩
          rw [HTK.out, itemS, if_neg (by rw [← HQ.out]; simp), List.length_append, List.map_append, HES.out, ← HM.out]
          exact HO6.out
    · have hltz : ¬ (k : Int) < (es.length : Int) := by omega
      have hke : k = es.length := by omega
      subst hke
      rw [List.take_length] at ho
      have HO := Lib.hid ho
      clear ho hrd
      rw [List.take_length]
      go_wp2
      go_ret
      exact ⟨_, rfl, HO.out, hb⟩
end Go.Proofs.YtefbedineniejaaDoor
end
