/- The teller puts. -/
import Derived.Test.YtackpcohmmlkeaaGreatDoorCsC
import Derived.Deep.RegionWith
namespace Go.Proofs.YtackpcohmmlkeaaGreatDoor
open Go.RowKit
open Go.Maps (Keyed)
set_option linter.unusedVariables false

/-- 't.layers[item]', in whatever world behind. -/
theorem TW.looks {w : World} {T bl bm c : Nat} {L : List UInt8 → List Lay} {G : List UInt8 → Int} (h : TW w T bl bm c L G) (s : ByteArray) (hs : s.size ≤ maxLen) : ∃ v, RdY w v (L s.data.toList) ∧ ∀ W, Below w.heap.size w W → (Instr.lookup 68 (.map (some bl)) (.string s) false).run Tryz.prog W = .ok v W := by
  obtain ⟨t0, t1, ne, ⟨ks, f, m1, m2, m3⟩, -⟩ := h
  exact ⟨_, m3 _, fun W hb => (m1.below hb).get (Go.Maps.string_keyed Tryz.underlying9) Tryz.underlying68 (zero_sl W) (key_bytes s hs)⟩
theorem slice_clip (a : Option Addr) (n cap : Nat) (hc : n ≤ cap) (w : World) :
    (Instr.slice 136 (.slice a n cap) none (some (.int .i64 n)) (some (.int .i64 n))).run Tryz.prog w = .ok (.slice a n n) w := by
  cases a with
  | none =>
    go_simp
  | some ad =>
    go_simp
theorem clip_any (a : Option Addr) (n cap : Nat) (hc : n ≤ cap) (w : World) :
    Calls Tryz.prog 133 #[.slice a n cap] w fun e w' => e = .returned (.slice a n n) ∧ w' = w := by
  have h := fun W => slice_clip a n cap hc W
  go_enter Tryz.func133, Tryz.ntmps133
  go_wp2
  go_ret
  exact ⟨rfl, rfl⟩
theorem RdY.clip {w : World} {a : Option Addr} {n c : Nat} {ls : List Lay} (h : RdY w (.slice a n c) ls) : n = ls.length ∧ n ≤ c ∧ RdY w (.slice a n n) ls := by
  obtain ⟨a', c', h1, h2, h3, h4, h5⟩ := h
  injection h1 with e1 e2 e3
  subst e1 e2 e3
  exact ⟨rfl, h2, ⟨_, _, rfl, Nat.le_refl _, by omega, fun h => by have := h4 h; omega, h5⟩⟩
set_option maxHeartbeats 4000000 in
set_option maxRecDepth 100000 in
theorem put_any (T bl bm c : Nat) (L : List UInt8 → List Lay) (G : List UInt8 → Int) (s : ByteArray) (i q v : Int) (w : World) (h : TW w T bl bm c L G) (hs : s.size ≤ maxLen) (hc : c < 1000000) (hl : (L s.data.toList).length ≤ 1000) :
    Calls Tryz.prog 92 #[.pointer (some ⟨T, 0, none⟩), .string s, .int .i64 i, .int .i64 q, .int .i64 v] w fun e w' =>
      e = .returned (.tuple #[]) ∧ TW w' T bl bm (c + 1) (updL L s.data.toList (L s.data.toList ++ [⟨i, q, v⟩])) G ∧ Li bl bm w w' := by
  obtain ⟨W0, hW0⟩ : ∃ W0, W0 = w.drew := ⟨_, rfl⟩
  have hb0 : Below w.heap.size w W0 := by rw [hW0]; exact (Below.refl _ w).drew
  have h0 : TW W0 T bl bm c L G := h.below hb0
  obtain ⟨WA, hWA⟩ : ∃ WA, WA = W0.alloc (.cells #[.int .i64 i, .int .i64 q, .int .i64 v] 139) := ⟨_, rfl⟩
  have hbA0 : Below W0.heap.size W0 WA := by rw [hWA]; exact (Below.refl _ W0).new _
  have hA : TW WA T bl bm c L G := h0.below hbA0
  have hbA : Li bl bm w WA := (Li.of_below hb0).trans (Li.of_below hbA0)
  obtain ⟨v0, hr0, hlook⟩ := h0.looks s hs
  have look0 := hlook W0 (Below.refl _ _)
  have lookA := hlook WA hbA0
  clear hlook
  have t0 := h0.t0
  have tA := hA.t0
  have hTA : T < WA.heap.size := cell_blk tA
  have hrA := hr0.below hbA0
  have HSET : Aside (∀ (W : World) (v : Value) (ls : List Lay), Below WA.heap.size WA W → RdY W v ls → ∃ w', (Instr.mapUpdate 68 (.map (some bl)) (.string s) v).run Tryz.prog W = .ok () w' ∧ TW w' T bl bm (c + 1) (updL L s.data.toList ls) G ∧ Li bl bm W w') :=
    fun W v ls hb hv => (hA.below hb).set s hs (by unfold maxLen; omega) v ls hv
  generalize hls : L s.data.toList = ls at hr0 hrA hl ⊢
  clear hls
  have hrc := hr0
  obtain ⟨a, cp, rfl, -⟩ := hrc
  have HX := rdY_one W0 ⟨i, q, v⟩
  simp only at HX
  rw [← hWA] at HX
  have HRX := Lib.hid HX
  have HRA := Lib.hid hrA.clip.2.2
  have HCP := Lib.hid (fun W => clip_any a ls.length cp hrA.clip.2.1 W)
  obtain ⟨n, hn⟩ : ∃ n, n = ls.length := ⟨_, rfl⟩
  rw [← hn] at look0 lookA HRA HCP
  have HLN := Lib.hid hn
  have hll : ls.length ≤ 1000 := hl
  subst hWA
  clear h h0 hA hr0 hrA HX hn hbA0
  go_enter Tryz.func92, Tryz.ntmps92
  go_wp2_with fail
  refine wp_region_any (by kernel_rfl) ?_
  change wpAny _ _ _ _ _ _ _ w.drew
  rw [← hW0]
  clear hW0 hb0
  refine wpAny_take (i := 0) (v := ?_) rfl (by kernel_rfl) (by kernel_rfl) (by kernel_rfl) (fun _ _ _ h => h) (Or.inl ⟨by rfl, ?_⟩) ?_
  rotate_left
  · intro _; go_simp; try (with_reducible rfl)
  refine wpAny_take (i := 1) (v := ?_) rfl (by kernel_rfl) (by kernel_rfl) (by kernel_rfl) (fun _ _ _ h => h) (Or.inl ⟨by rfl, ?_⟩) ?_
  rotate_left
  · intro _; go_simp; try (with_reducible rfl)
  refine wpAny_take (i := 2) (v := ?_) rfl (by kernel_rfl) (by kernel_rfl) (by kernel_rfl) (fun _ _ _ h => h) (Or.inl ⟨by rfl, ?_⟩) ?_
  rotate_left
  · intro _; go_simp; try (with_reducible rfl)
  refine wpAny_take (i := 4) (v := ?_) rfl (by kernel_rfl) (by kernel_rfl) (by kernel_rfl) (fun _ _ _ h => h) (Or.inl ⟨by rfl, ?_⟩) ?_
  rotate_left
  · intro _; go_simp; try (with_reducible rfl)
  refine wpAny_take (i := 5) (v := ?_) rfl (by kernel_rfl) (by kernel_rfl) (by kernel_rfl) (fun _ _ _ h => h) (Or.inl ⟨by rfl, ?_⟩) ?_
  rotate_left
  · intro _; go_simp; try (with_reducible rfl)
  refine wpAny_take (i := 6) (v := ?_) rfl (by kernel_rfl) (by kernel_rfl) (by kernel_rfl) (fun _ _ _ h => h) (Or.inl ⟨by rfl, ?_⟩) ?_
  rotate_left
  · intro _; go_simp; try (with_reducible rfl)
  refine wpAny_take (i := 7) (v := ?_) rfl (by kernel_rfl) (by kernel_rfl) (by kernel_rfl) (fun _ _ _ h => h) (Or.inl ⟨by rfl, ?_⟩) ?_
  rotate_left
  · intro _; go_simp; try (with_reducible rfl)
  refine wpAny_take (i := 9) (v := ?_) rfl (by kernel_rfl) (by kernel_rfl) (by kernel_rfl) (fun _ _ _ h => h) (Or.inl ⟨by rfl, ?_⟩) ?_
  rotate_left
  · intro _; go_simp; try (with_reducible rfl)
  refine wpAny_take (i := 12) (v := ?_) rfl (by kernel_rfl) (by kernel_rfl) (by kernel_rfl) (fun _ _ _ h => h) (Or.inl ⟨by rfl, ?_⟩) ?_
  rotate_left
  · intro _; go_simp; try (with_reducible rfl)
  refine wpAny_take (i := 13) (v := ?_) rfl (by kernel_rfl) (by kernel_rfl) (by kernel_rfl) (fun _ _ _ h => h) (Or.inl ⟨by rfl, ?_⟩) ?_
  rotate_left
  · intro _; go_simp; try (with_reducible rfl)
  refine wpAny_take (i := 14) (v := ?_) rfl (by kernel_rfl) (by kernel_rfl) (by kernel_rfl) (fun _ _ _ h => h) (Or.inl ⟨by rfl, ?_⟩) ?_
  rotate_left
  · intro _; go_simp; try (with_reducible rfl)
  refine wpAny_take (i := 15) (v := ?_) rfl (by kernel_rfl) (by kernel_rfl) (by kernel_rfl) (fun _ _ _ h => h) (Or.inl ⟨by rfl, ?_⟩) ?_
  rotate_left
  · intro _; go_simp; try (with_reducible rfl)
  refine wpAny_ready (rs := [3, 8, 16]) (by kernel_rfl) (by simp) (AllReady.cons rfl (fun K hK => ?_) (AllReady.cons rfl (fun K hK => ?_) (AllReady.cons rfl (fun K hK => ?_) AllReady.nil)))
  · go_simp
    refine hK _ _ ?_
    clear hK K
    refine wpAny_ready (rs := [8, 16]) (by kernel_rfl) (by simp) (AllReady.cons rfl (fun K hK => ?_) (AllReady.cons rfl (fun K hK => ?_) AllReady.nil))
    · go_simp
      refine hK _ _ ?_
      clear hK K
      refine wpAny_ready (rs := [10, 16]) (by kernel_rfl) (by simp) (AllReady.cons rfl (fun K hK => ?_) (AllReady.cons rfl (fun K hK => ?_) AllReady.nil))
      · go_simp
        refine hK _ _ ?_
        clear hK K
        refine wpAny_ready (rs := [11, 16]) (by kernel_rfl) (by simp) (AllReady.cons rfl (fun K hK => ?_) (AllReady.cons rfl (fun K hK => ?_) AllReady.nil))
        · go_simp
          refine (HCP.out _).mono ?_
          rintro e w' ⟨rfl, hw'⟩
          rw [hw']
          clear hw'
          refine hK _ _ ?_
          clear hK K
          refine wpAny_ready (rs := [16]) (by kernel_rfl) (by simp) (AllReady.cons rfl (fun K hK => ?_) AllReady.nil)
          go_simp
          refine hK _ _ ?_
          clear hK K
          refine wpAny_ready (rs := [17]) (by kernel_rfl) (by simp) (AllReady.cons rfl (fun K hK => ?_) AllReady.nil)
          refine wp_app2 (.tmp 21) (.tmp 26) rfl a n n 1 ls [⟨i, q, v⟩] rfl HLN.out HRA.out rfl (some ⟨W0.heap.size, 0, none⟩) 1 rfl rfl HRX.out (by simp; omega) ?_
          intro v' w4 hr4 hb4
          have t4 := (hb4.cell hTA).trans tA
          refine hK _ _ ?_
          clear hK K
          refine wpAny_ready (rs := [18]) (by kernel_rfl) (by simp) (AllReady.cons rfl (fun K hK => ?_) AllReady.nil)
          obtain ⟨w5, hrun, htw, hli⟩ := HSET.out w4 v' _ hb4 hr4
          go_simp
          refine hK _ _ ?_
          clear hK K
          refine wpAny_done (by kernel_rfl) ?_ _
          go_end0
          exact ⟨rfl, htw, (hbA.trans (Li.of_below hb4)).trans hli⟩
        · go_simp
          refine hK _ _ ?_
          clear hK K
          refine wpAny_ready (rs := [11]) (by kernel_rfl) (by simp) (AllReady.cons rfl (fun K hK => ?_) AllReady.nil)
          go_simp
          refine (HCP.out _).mono ?_
          rintro e w' ⟨rfl, hw'⟩
          rw [hw']
          clear hw'
          refine hK _ _ ?_
          clear hK K
          refine wpAny_ready (rs := [17]) (by kernel_rfl) (by simp) (AllReady.cons rfl (fun K hK => ?_) AllReady.nil)
          refine wp_app2 (.tmp 21) (.tmp 26) rfl a n n 1 ls [⟨i, q, v⟩] rfl HLN.out HRA.out rfl (some ⟨W0.heap.size, 0, none⟩) 1 rfl rfl HRX.out (by simp; omega) ?_
          intro v' w4 hr4 hb4
          have t4 := (hb4.cell hTA).trans tA
          refine hK _ _ ?_
          clear hK K
          refine wpAny_ready (rs := [18]) (by kernel_rfl) (by simp) (AllReady.cons rfl (fun K hK => ?_) AllReady.nil)
          obtain ⟨w5, hrun, htw, hli⟩ := HSET.out w4 v' _ hb4 hr4
          go_simp
          refine hK _ _ ?_
          clear hK K
          refine wpAny_done (by kernel_rfl) ?_ _
          go_end0
          exact ⟨rfl, htw, (hbA.trans (Li.of_below hb4)).trans hli⟩
      · go_simp
        refine hK _ _ ?_
        clear hK K
        refine wpAny_ready (rs := [10]) (by kernel_rfl) (by simp) (AllReady.cons rfl (fun K hK => ?_) AllReady.nil)
        go_simp
        refine hK _ _ ?_
        clear hK K
        refine wpAny_ready (rs := [11]) (by kernel_rfl) (by simp) (AllReady.cons rfl (fun K hK => ?_) AllReady.nil)
        go_simp
        refine (HCP.out _).mono ?_
        rintro e w' ⟨rfl, hw'⟩
        rw [hw']
        clear hw'
        refine hK _ _ ?_
        clear hK K
        refine wpAny_ready (rs := [17]) (by kernel_rfl) (by simp) (AllReady.cons rfl (fun K hK => ?_) AllReady.nil)
        refine wp_app2 (.tmp 21) (.tmp 26) rfl a n n 1 ls [⟨i, q, v⟩] rfl HLN.out HRA.out rfl (some ⟨W0.heap.size, 0, none⟩) 1 rfl rfl HRX.out (by simp; omega) ?_
        intro v' w4 hr4 hb4
        have t4 := (hb4.cell hTA).trans tA
        refine hK _ _ ?_
        clear hK K
        refine wpAny_ready (rs := [18]) (by kernel_rfl) (by simp) (AllReady.cons rfl (fun K hK => ?_) AllReady.nil)
        obtain ⟨w5, hrun, htw, hli⟩ := HSET.out w4 v' _ hb4 hr4
        go_simp
        refine hK _ _ ?_
        clear hK K
        refine wpAny_done (by kernel_rfl) ?_ _
        go_end0
        exact ⟨rfl, htw, (hbA.trans (Li.of_below hb4)).trans hli⟩
    · go_simp
      refine hK _ _ ?_
      clear hK K
      refine wpAny_ready (rs := [8]) (by kernel_rfl) (by simp) (AllReady.cons rfl (fun K hK => ?_) AllReady.nil)
      go_simp
      refine hK _ _ ?_
      clear hK K
      refine wpAny_ready (rs := [10]) (by kernel_rfl) (by simp) (AllReady.cons rfl (fun K hK => ?_) AllReady.nil)
      go_simp
      refine hK _ _ ?_
      clear hK K
      refine wpAny_ready (rs := [11]) (by kernel_rfl) (by simp) (AllReady.cons rfl (fun K hK => ?_) AllReady.nil)
      go_simp
      refine (HCP.out _).mono ?_
      rintro e w' ⟨rfl, hw'⟩
      rw [hw']
      clear hw'
      refine hK _ _ ?_
      clear hK K
      refine wpAny_ready (rs := [17]) (by kernel_rfl) (by simp) (AllReady.cons rfl (fun K hK => ?_) AllReady.nil)
      refine wp_app2 (.tmp 21) (.tmp 26) rfl a n n 1 ls [⟨i, q, v⟩] rfl HLN.out HRA.out rfl (some ⟨W0.heap.size, 0, none⟩) 1 rfl rfl HRX.out (by simp; omega) ?_
      intro v' w4 hr4 hb4
      have t4 := (hb4.cell hTA).trans tA
      refine hK _ _ ?_
      clear hK K
      refine wpAny_ready (rs := [18]) (by kernel_rfl) (by simp) (AllReady.cons rfl (fun K hK => ?_) AllReady.nil)
      obtain ⟨w5, hrun, htw, hli⟩ := HSET.out w4 v' _ hb4 hr4
      go_simp
      refine hK _ _ ?_
      clear hK K
      refine wpAny_done (by kernel_rfl) ?_ _
      go_end0
      exact ⟨rfl, htw, (hbA.trans (Li.of_below hb4)).trans hli⟩
  · go_simp
    refine hK _ _ ?_
    clear hK K
    refine wpAny_ready (rs := [3, 10, 16]) (by kernel_rfl) (by simp) (AllReady.cons rfl (fun K hK => ?_) (AllReady.cons rfl (fun K hK => ?_) (AllReady.cons rfl (fun K hK => ?_) AllReady.nil)))
    · go_simp
      refine hK _ _ ?_
      clear hK K
      refine wpAny_ready (rs := [10, 16]) (by kernel_rfl) (by simp) (AllReady.cons rfl (fun K hK => ?_) (AllReady.cons rfl (fun K hK => ?_) AllReady.nil))
      · go_simp
        refine hK _ _ ?_
        clear hK K
        refine wpAny_ready (rs := [11, 16]) (by kernel_rfl) (by simp) (AllReady.cons rfl (fun K hK => ?_) (AllReady.cons rfl (fun K hK => ?_) AllReady.nil))
        · go_simp
          refine (HCP.out _).mono ?_
          rintro e w' ⟨rfl, hw'⟩
          rw [hw']
          clear hw'
          refine hK _ _ ?_
          clear hK K
          refine wpAny_ready (rs := [16]) (by kernel_rfl) (by simp) (AllReady.cons rfl (fun K hK => ?_) AllReady.nil)
          go_simp
          refine hK _ _ ?_
          clear hK K
          refine wpAny_ready (rs := [17]) (by kernel_rfl) (by simp) (AllReady.cons rfl (fun K hK => ?_) AllReady.nil)
          refine wp_app2 (.tmp 21) (.tmp 26) rfl a n n 1 ls [⟨i, q, v⟩] rfl HLN.out HRA.out rfl (some ⟨W0.heap.size, 0, none⟩) 1 rfl rfl HRX.out (by simp; omega) ?_
          intro v' w4 hr4 hb4
          have t4 := (hb4.cell hTA).trans tA
          refine hK _ _ ?_
          clear hK K
          refine wpAny_ready (rs := [18]) (by kernel_rfl) (by simp) (AllReady.cons rfl (fun K hK => ?_) AllReady.nil)
          obtain ⟨w5, hrun, htw, hli⟩ := HSET.out w4 v' _ hb4 hr4
          go_simp
          refine hK _ _ ?_
          clear hK K
          refine wpAny_done (by kernel_rfl) ?_ _
          go_end0
          exact ⟨rfl, htw, (hbA.trans (Li.of_below hb4)).trans hli⟩
        · go_simp
          refine hK _ _ ?_
          clear hK K
          refine wpAny_ready (rs := [11]) (by kernel_rfl) (by simp) (AllReady.cons rfl (fun K hK => ?_) AllReady.nil)
          go_simp
          refine (HCP.out _).mono ?_
          rintro e w' ⟨rfl, hw'⟩
          rw [hw']
          clear hw'
          refine hK _ _ ?_
          clear hK K
          refine wpAny_ready (rs := [17]) (by kernel_rfl) (by simp) (AllReady.cons rfl (fun K hK => ?_) AllReady.nil)
          refine wp_app2 (.tmp 21) (.tmp 26) rfl a n n 1 ls [⟨i, q, v⟩] rfl HLN.out HRA.out rfl (some ⟨W0.heap.size, 0, none⟩) 1 rfl rfl HRX.out (by simp; omega) ?_
          intro v' w4 hr4 hb4
          have t4 := (hb4.cell hTA).trans tA
          refine hK _ _ ?_
          clear hK K
          refine wpAny_ready (rs := [18]) (by kernel_rfl) (by simp) (AllReady.cons rfl (fun K hK => ?_) AllReady.nil)
          obtain ⟨w5, hrun, htw, hli⟩ := HSET.out w4 v' _ hb4 hr4
          go_simp
          refine hK _ _ ?_
          clear hK K
          refine wpAny_done (by kernel_rfl) ?_ _
          go_end0
          exact ⟨rfl, htw, (hbA.trans (Li.of_below hb4)).trans hli⟩
      · go_simp
        refine hK _ _ ?_
        clear hK K
        refine wpAny_ready (rs := [10]) (by kernel_rfl) (by simp) (AllReady.cons rfl (fun K hK => ?_) AllReady.nil)
        go_simp
        refine hK _ _ ?_
        clear hK K
        refine wpAny_ready (rs := [11]) (by kernel_rfl) (by simp) (AllReady.cons rfl (fun K hK => ?_) AllReady.nil)
        go_simp
        refine (HCP.out _).mono ?_
        rintro e w' ⟨rfl, hw'⟩
        rw [hw']
        clear hw'
        refine hK _ _ ?_
        clear hK K
        refine wpAny_ready (rs := [17]) (by kernel_rfl) (by simp) (AllReady.cons rfl (fun K hK => ?_) AllReady.nil)
        refine wp_app2 (.tmp 21) (.tmp 26) rfl a n n 1 ls [⟨i, q, v⟩] rfl HLN.out HRA.out rfl (some ⟨W0.heap.size, 0, none⟩) 1 rfl rfl HRX.out (by simp; omega) ?_
        intro v' w4 hr4 hb4
        have t4 := (hb4.cell hTA).trans tA
        refine hK _ _ ?_
        clear hK K
        refine wpAny_ready (rs := [18]) (by kernel_rfl) (by simp) (AllReady.cons rfl (fun K hK => ?_) AllReady.nil)
        obtain ⟨w5, hrun, htw, hli⟩ := HSET.out w4 v' _ hb4 hr4
        go_simp
        refine hK _ _ ?_
        clear hK K
        refine wpAny_done (by kernel_rfl) ?_ _
        go_end0
        exact ⟨rfl, htw, (hbA.trans (Li.of_below hb4)).trans hli⟩
    · go_simp
      refine hK _ _ ?_
      clear hK K
      refine wpAny_ready (rs := [3, 11, 16]) (by kernel_rfl) (by simp) (AllReady.cons rfl (fun K hK => ?_) (AllReady.cons rfl (fun K hK => ?_) (AllReady.cons rfl (fun K hK => ?_) AllReady.nil)))
      · go_simp
        refine hK _ _ ?_
        clear hK K
        refine wpAny_ready (rs := [11, 16]) (by kernel_rfl) (by simp) (AllReady.cons rfl (fun K hK => ?_) (AllReady.cons rfl (fun K hK => ?_) AllReady.nil))
        · go_simp
          refine (HCP.out _).mono ?_
          rintro e w' ⟨rfl, hw'⟩
          rw [hw']
          clear hw'
          refine hK _ _ ?_
          clear hK K
          refine wpAny_ready (rs := [16]) (by kernel_rfl) (by simp) (AllReady.cons rfl (fun K hK => ?_) AllReady.nil)
          go_simp
          refine hK _ _ ?_
          clear hK K
          refine wpAny_ready (rs := [17]) (by kernel_rfl) (by simp) (AllReady.cons rfl (fun K hK => ?_) AllReady.nil)
          refine wp_app2 (.tmp 21) (.tmp 26) rfl a n n 1 ls [⟨i, q, v⟩] rfl HLN.out HRA.out rfl (some ⟨W0.heap.size, 0, none⟩) 1 rfl rfl HRX.out (by simp; omega) ?_
          intro v' w4 hr4 hb4
          have t4 := (hb4.cell hTA).trans tA
          refine hK _ _ ?_
          clear hK K
          refine wpAny_ready (rs := [18]) (by kernel_rfl) (by simp) (AllReady.cons rfl (fun K hK => ?_) AllReady.nil)
          obtain ⟨w5, hrun, htw, hli⟩ := HSET.out w4 v' _ hb4 hr4
          go_simp
          refine hK _ _ ?_
          clear hK K
          refine wpAny_done (by kernel_rfl) ?_ _
          go_end0
          exact ⟨rfl, htw, (hbA.trans (Li.of_below hb4)).trans hli⟩
        · go_simp
          refine hK _ _ ?_
          clear hK K
          refine wpAny_ready (rs := [11]) (by kernel_rfl) (by simp) (AllReady.cons rfl (fun K hK => ?_) AllReady.nil)
          go_simp
          refine (HCP.out _).mono ?_
          rintro e w' ⟨rfl, hw'⟩
          rw [hw']
          clear hw'
          refine hK _ _ ?_
          clear hK K
          refine wpAny_ready (rs := [17]) (by kernel_rfl) (by simp) (AllReady.cons rfl (fun K hK => ?_) AllReady.nil)
          refine wp_app2 (.tmp 21) (.tmp 26) rfl a n n 1 ls [⟨i, q, v⟩] rfl HLN.out HRA.out rfl (some ⟨W0.heap.size, 0, none⟩) 1 rfl rfl HRX.out (by simp; omega) ?_
          intro v' w4 hr4 hb4
          have t4 := (hb4.cell hTA).trans tA
          refine hK _ _ ?_
          clear hK K
          refine wpAny_ready (rs := [18]) (by kernel_rfl) (by simp) (AllReady.cons rfl (fun K hK => ?_) AllReady.nil)
          obtain ⟨w5, hrun, htw, hli⟩ := HSET.out w4 v' _ hb4 hr4
          go_simp
          refine hK _ _ ?_
          clear hK K
          refine wpAny_done (by kernel_rfl) ?_ _
          go_end0
          exact ⟨rfl, htw, (hbA.trans (Li.of_below hb4)).trans hli⟩
      · go_simp
        refine (HCP.out _).mono ?_
        rintro e w' ⟨rfl, hw'⟩
        rw [hw']
        clear hw'
        refine hK _ _ ?_
        clear hK K
        refine wpAny_ready (rs := [3, 16]) (by kernel_rfl) (by simp) (AllReady.cons rfl (fun K hK => ?_) (AllReady.cons rfl (fun K hK => ?_) AllReady.nil))
        · go_simp
          refine hK _ _ ?_
          clear hK K
          refine wpAny_ready (rs := [16]) (by kernel_rfl) (by simp) (AllReady.cons rfl (fun K hK => ?_) AllReady.nil)
          go_simp
          refine hK _ _ ?_
          clear hK K
          refine wpAny_ready (rs := [17]) (by kernel_rfl) (by simp) (AllReady.cons rfl (fun K hK => ?_) AllReady.nil)
          refine wp_app2 (.tmp 21) (.tmp 26) rfl a n n 1 ls [⟨i, q, v⟩] rfl HLN.out HRA.out rfl (some ⟨W0.heap.size, 0, none⟩) 1 rfl rfl HRX.out (by simp; omega) ?_
          intro v' w4 hr4 hb4
          have t4 := (hb4.cell hTA).trans tA
          refine hK _ _ ?_
          clear hK K
          refine wpAny_ready (rs := [18]) (by kernel_rfl) (by simp) (AllReady.cons rfl (fun K hK => ?_) AllReady.nil)
          obtain ⟨w5, hrun, htw, hli⟩ := HSET.out w4 v' _ hb4 hr4
          go_simp
          refine hK _ _ ?_
          clear hK K
          refine wpAny_done (by kernel_rfl) ?_ _
          go_end0
          exact ⟨rfl, htw, (hbA.trans (Li.of_below hb4)).trans hli⟩
        · go_simp
          refine hK _ _ ?_
          clear hK K
          refine wpAny_ready (rs := [3, 17]) (by kernel_rfl) (by simp) (AllReady.cons rfl (fun K hK => ?_) (AllReady.cons rfl (fun K hK => ?_) AllReady.nil))
          · go_simp
            refine hK _ _ ?_
            clear hK K
            refine wpAny_ready (rs := [17]) (by kernel_rfl) (by simp) (AllReady.cons rfl (fun K hK => ?_) AllReady.nil)
            refine wp_app2 (.tmp 21) (.tmp 26) rfl a n n 1 ls [⟨i, q, v⟩] rfl HLN.out HRA.out rfl (some ⟨W0.heap.size, 0, none⟩) 1 rfl rfl HRX.out (by simp; omega) ?_
            intro v' w4 hr4 hb4
            have t4 := (hb4.cell hTA).trans tA
            refine hK _ _ ?_
            clear hK K
            refine wpAny_ready (rs := [18]) (by kernel_rfl) (by simp) (AllReady.cons rfl (fun K hK => ?_) AllReady.nil)
            obtain ⟨w5, hrun, htw, hli⟩ := HSET.out w4 v' _ hb4 hr4
            go_simp
            refine hK _ _ ?_
            clear hK K
            refine wpAny_done (by kernel_rfl) ?_ _
            go_end0
            exact ⟨rfl, htw, (hbA.trans (Li.of_below hb4)).trans hli⟩
          · refine wp_app2 (.tmp 21) (.tmp 26) rfl a n n 1 ls [⟨i, q, v⟩] rfl HLN.out HRA.out rfl (some ⟨W0.heap.size, 0, none⟩) 1 rfl rfl HRX.out (by simp; omega) ?_
            intro v' w4 hr4 hb4
            have t4 := (hb4.cell hTA).trans tA
            refine hK _ _ ?_
            clear hK K
            refine wpAny_ready (rs := [3]) (by kernel_rfl) (by simp) (AllReady.cons rfl (fun K hK => ?_) AllReady.nil)
            go_simp
            refine hK _ _ ?_
            clear hK K
            refine wpAny_ready (rs := [18]) (by kernel_rfl) (by simp) (AllReady.cons rfl (fun K hK => ?_) AllReady.nil)
            obtain ⟨w5, hrun, htw, hli⟩ := HSET.out w4 v' _ hb4 hr4
            go_simp
            refine hK _ _ ?_
            clear hK K
            refine wpAny_done (by kernel_rfl) ?_ _
            go_end0
            exact ⟨rfl, htw, (hbA.trans (Li.of_below hb4)).trans hli⟩
      · go_simp
        refine hK _ _ ?_
        clear hK K
        refine wpAny_ready (rs := [3, 11]) (by kernel_rfl) (by simp) (AllReady.cons rfl (fun K hK => ?_) (AllReady.cons rfl (fun K hK => ?_) AllReady.nil))
        · go_simp
          refine hK _ _ ?_
          clear hK K
          refine wpAny_ready (rs := [11]) (by kernel_rfl) (by simp) (AllReady.cons rfl (fun K hK => ?_) AllReady.nil)
          go_simp
          refine (HCP.out _).mono ?_
          rintro e w' ⟨rfl, hw'⟩
          rw [hw']
          clear hw'
          refine hK _ _ ?_
          clear hK K
          refine wpAny_ready (rs := [17]) (by kernel_rfl) (by simp) (AllReady.cons rfl (fun K hK => ?_) AllReady.nil)
          refine wp_app2 (.tmp 21) (.tmp 26) rfl a n n 1 ls [⟨i, q, v⟩] rfl HLN.out HRA.out rfl (some ⟨W0.heap.size, 0, none⟩) 1 rfl rfl HRX.out (by simp; omega) ?_
          intro v' w4 hr4 hb4
          have t4 := (hb4.cell hTA).trans tA
          refine hK _ _ ?_
          clear hK K
          refine wpAny_ready (rs := [18]) (by kernel_rfl) (by simp) (AllReady.cons rfl (fun K hK => ?_) AllReady.nil)
          obtain ⟨w5, hrun, htw, hli⟩ := HSET.out w4 v' _ hb4 hr4
          go_simp
          refine hK _ _ ?_
          clear hK K
          refine wpAny_done (by kernel_rfl) ?_ _
          go_end0
          exact ⟨rfl, htw, (hbA.trans (Li.of_below hb4)).trans hli⟩
        · go_simp
          refine (HCP.out _).mono ?_
          rintro e w' ⟨rfl, hw'⟩
          rw [hw']
          clear hw'
          refine hK _ _ ?_
          clear hK K
          refine wpAny_ready (rs := [3, 17]) (by kernel_rfl) (by simp) (AllReady.cons rfl (fun K hK => ?_) (AllReady.cons rfl (fun K hK => ?_) AllReady.nil))
          · go_simp
            refine hK _ _ ?_
            clear hK K
            refine wpAny_ready (rs := [17]) (by kernel_rfl) (by simp) (AllReady.cons rfl (fun K hK => ?_) AllReady.nil)
            refine wp_app2 (.tmp 21) (.tmp 26) rfl a n n 1 ls [⟨i, q, v⟩] rfl HLN.out HRA.out rfl (some ⟨W0.heap.size, 0, none⟩) 1 rfl rfl HRX.out (by simp; omega) ?_
            intro v' w4 hr4 hb4
            have t4 := (hb4.cell hTA).trans tA
            refine hK _ _ ?_
            clear hK K
            refine wpAny_ready (rs := [18]) (by kernel_rfl) (by simp) (AllReady.cons rfl (fun K hK => ?_) AllReady.nil)
            obtain ⟨w5, hrun, htw, hli⟩ := HSET.out w4 v' _ hb4 hr4
            go_simp
            refine hK _ _ ?_
            clear hK K
            refine wpAny_done (by kernel_rfl) ?_ _
            go_end0
            exact ⟨rfl, htw, (hbA.trans (Li.of_below hb4)).trans hli⟩
          · refine wp_app2 (.tmp 21) (.tmp 26) rfl a n n 1 ls [⟨i, q, v⟩] rfl HLN.out HRA.out rfl (some ⟨W0.heap.size, 0, none⟩) 1 rfl rfl HRX.out (by simp; omega) ?_
            intro v' w4 hr4 hb4
            have t4 := (hb4.cell hTA).trans tA
            refine hK _ _ ?_
            clear hK K
            refine wpAny_ready (rs := [3]) (by kernel_rfl) (by simp) (AllReady.cons rfl (fun K hK => ?_) AllReady.nil)
            go_simp
            refine hK _ _ ?_
            clear hK K
            refine wpAny_ready (rs := [18]) (by kernel_rfl) (by simp) (AllReady.cons rfl (fun K hK => ?_) AllReady.nil)
            obtain ⟨w5, hrun, htw, hli⟩ := HSET.out w4 v' _ hb4 hr4
            go_simp
            refine hK _ _ ?_
            clear hK K
            refine wpAny_done (by kernel_rfl) ?_ _
            go_end0
            exact ⟨rfl, htw, (hbA.trans (Li.of_below hb4)).trans hli⟩
    · go_simp
      refine hK _ _ ?_
      clear hK K
      refine wpAny_ready (rs := [3, 10]) (by kernel_rfl) (by simp) (AllReady.cons rfl (fun K hK => ?_) (AllReady.cons rfl (fun K hK => ?_) AllReady.nil))
      · go_simp
        refine hK _ _ ?_
        clear hK K
        refine wpAny_ready (rs := [10]) (by kernel_rfl) (by simp) (AllReady.cons rfl (fun K hK => ?_) AllReady.nil)
        go_simp
        refine hK _ _ ?_
        clear hK K
        refine wpAny_ready (rs := [11]) (by kernel_rfl) (by simp) (AllReady.cons rfl (fun K hK => ?_) AllReady.nil)
        go_simp
        refine (HCP.out _).mono ?_
        rintro e w' ⟨rfl, hw'⟩
        rw [hw']
        clear hw'
        refine hK _ _ ?_
        clear hK K
        refine wpAny_ready (rs := [17]) (by kernel_rfl) (by simp) (AllReady.cons rfl (fun K hK => ?_) AllReady.nil)
        refine wp_app2 (.tmp 21) (.tmp 26) rfl a n n 1 ls [⟨i, q, v⟩] rfl HLN.out HRA.out rfl (some ⟨W0.heap.size, 0, none⟩) 1 rfl rfl HRX.out (by simp; omega) ?_
        intro v' w4 hr4 hb4
        have t4 := (hb4.cell hTA).trans tA
        refine hK _ _ ?_
        clear hK K
        refine wpAny_ready (rs := [18]) (by kernel_rfl) (by simp) (AllReady.cons rfl (fun K hK => ?_) AllReady.nil)
        obtain ⟨w5, hrun, htw, hli⟩ := HSET.out w4 v' _ hb4 hr4
        go_simp
        refine hK _ _ ?_
        clear hK K
        refine wpAny_done (by kernel_rfl) ?_ _
        go_end0
        exact ⟨rfl, htw, (hbA.trans (Li.of_below hb4)).trans hli⟩
      · go_simp
        refine hK _ _ ?_
        clear hK K
        refine wpAny_ready (rs := [3, 11]) (by kernel_rfl) (by simp) (AllReady.cons rfl (fun K hK => ?_) (AllReady.cons rfl (fun K hK => ?_) AllReady.nil))
        · go_simp
          refine hK _ _ ?_
          clear hK K
          refine wpAny_ready (rs := [11]) (by kernel_rfl) (by simp) (AllReady.cons rfl (fun K hK => ?_) AllReady.nil)
          go_simp
          refine (HCP.out _).mono ?_
          rintro e w' ⟨rfl, hw'⟩
          rw [hw']
          clear hw'
          refine hK _ _ ?_
          clear hK K
          refine wpAny_ready (rs := [17]) (by kernel_rfl) (by simp) (AllReady.cons rfl (fun K hK => ?_) AllReady.nil)
          refine wp_app2 (.tmp 21) (.tmp 26) rfl a n n 1 ls [⟨i, q, v⟩] rfl HLN.out HRA.out rfl (some ⟨W0.heap.size, 0, none⟩) 1 rfl rfl HRX.out (by simp; omega) ?_
          intro v' w4 hr4 hb4
          have t4 := (hb4.cell hTA).trans tA
          refine hK _ _ ?_
          clear hK K
          refine wpAny_ready (rs := [18]) (by kernel_rfl) (by simp) (AllReady.cons rfl (fun K hK => ?_) AllReady.nil)
          obtain ⟨w5, hrun, htw, hli⟩ := HSET.out w4 v' _ hb4 hr4
          go_simp
          refine hK _ _ ?_
          clear hK K
          refine wpAny_done (by kernel_rfl) ?_ _
          go_end0
          exact ⟨rfl, htw, (hbA.trans (Li.of_below hb4)).trans hli⟩
        · go_simp
          refine (HCP.out _).mono ?_
          rintro e w' ⟨rfl, hw'⟩
          rw [hw']
          clear hw'
          refine hK _ _ ?_
          clear hK K
          refine wpAny_ready (rs := [3, 17]) (by kernel_rfl) (by simp) (AllReady.cons rfl (fun K hK => ?_) (AllReady.cons rfl (fun K hK => ?_) AllReady.nil))
          · go_simp
            refine hK _ _ ?_
            clear hK K
            refine wpAny_ready (rs := [17]) (by kernel_rfl) (by simp) (AllReady.cons rfl (fun K hK => ?_) AllReady.nil)
            refine wp_app2 (.tmp 21) (.tmp 26) rfl a n n 1 ls [⟨i, q, v⟩] rfl HLN.out HRA.out rfl (some ⟨W0.heap.size, 0, none⟩) 1 rfl rfl HRX.out (by simp; omega) ?_
            intro v' w4 hr4 hb4
            have t4 := (hb4.cell hTA).trans tA
            refine hK _ _ ?_
            clear hK K
            refine wpAny_ready (rs := [18]) (by kernel_rfl) (by simp) (AllReady.cons rfl (fun K hK => ?_) AllReady.nil)
            obtain ⟨w5, hrun, htw, hli⟩ := HSET.out w4 v' _ hb4 hr4
            go_simp
            refine hK _ _ ?_
            clear hK K
            refine wpAny_done (by kernel_rfl) ?_ _
            go_end0
            exact ⟨rfl, htw, (hbA.trans (Li.of_below hb4)).trans hli⟩
          · refine wp_app2 (.tmp 21) (.tmp 26) rfl a n n 1 ls [⟨i, q, v⟩] rfl HLN.out HRA.out rfl (some ⟨W0.heap.size, 0, none⟩) 1 rfl rfl HRX.out (by simp; omega) ?_
            intro v' w4 hr4 hb4
            have t4 := (hb4.cell hTA).trans tA
            refine hK _ _ ?_
            clear hK K
            refine wpAny_ready (rs := [3]) (by kernel_rfl) (by simp) (AllReady.cons rfl (fun K hK => ?_) AllReady.nil)
            go_simp
            refine hK _ _ ?_
            clear hK K
            refine wpAny_ready (rs := [18]) (by kernel_rfl) (by simp) (AllReady.cons rfl (fun K hK => ?_) AllReady.nil)
            obtain ⟨w5, hrun, htw, hli⟩ := HSET.out w4 v' _ hb4 hr4
            go_simp
            refine hK _ _ ?_
            clear hK K
            refine wpAny_done (by kernel_rfl) ?_ _
            go_end0
            exact ⟨rfl, htw, (hbA.trans (Li.of_below hb4)).trans hli⟩
  · go_simp
    refine hK _ _ ?_
    clear hK K
    refine wpAny_ready (rs := [3, 8]) (by kernel_rfl) (by simp) (AllReady.cons rfl (fun K hK => ?_) (AllReady.cons rfl (fun K hK => ?_) AllReady.nil))
    · go_simp
      refine hK _ _ ?_
      clear hK K
      refine wpAny_ready (rs := [8]) (by kernel_rfl) (by simp) (AllReady.cons rfl (fun K hK => ?_) AllReady.nil)
      go_simp
      refine hK _ _ ?_
      clear hK K
      refine wpAny_ready (rs := [10]) (by kernel_rfl) (by simp) (AllReady.cons rfl (fun K hK => ?_) AllReady.nil)
      go_simp
      refine hK _ _ ?_
      clear hK K
      refine wpAny_ready (rs := [11]) (by kernel_rfl) (by simp) (AllReady.cons rfl (fun K hK => ?_) AllReady.nil)
      go_simp
      refine (HCP.out _).mono ?_
      rintro e w' ⟨rfl, hw'⟩
      rw [hw']
      clear hw'
      refine hK _ _ ?_
      clear hK K
      refine wpAny_ready (rs := [17]) (by kernel_rfl) (by simp) (AllReady.cons rfl (fun K hK => ?_) AllReady.nil)
      refine wp_app2 (.tmp 21) (.tmp 26) rfl a n n 1 ls [⟨i, q, v⟩] rfl HLN.out HRA.out rfl (some ⟨W0.heap.size, 0, none⟩) 1 rfl rfl HRX.out (by simp; omega) ?_
      intro v' w4 hr4 hb4
      have t4 := (hb4.cell hTA).trans tA
      refine hK _ _ ?_
      clear hK K
      refine wpAny_ready (rs := [18]) (by kernel_rfl) (by simp) (AllReady.cons rfl (fun K hK => ?_) AllReady.nil)
      obtain ⟨w5, hrun, htw, hli⟩ := HSET.out w4 v' _ hb4 hr4
      go_simp
      refine hK _ _ ?_
      clear hK K
      refine wpAny_done (by kernel_rfl) ?_ _
      go_end0
      exact ⟨rfl, htw, (hbA.trans (Li.of_below hb4)).trans hli⟩
    · go_simp
      refine hK _ _ ?_
      clear hK K
      refine wpAny_ready (rs := [3, 10]) (by kernel_rfl) (by simp) (AllReady.cons rfl (fun K hK => ?_) (AllReady.cons rfl (fun K hK => ?_) AllReady.nil))
      · go_simp
        refine hK _ _ ?_
        clear hK K
        refine wpAny_ready (rs := [10]) (by kernel_rfl) (by simp) (AllReady.cons rfl (fun K hK => ?_) AllReady.nil)
        go_simp
        refine hK _ _ ?_
        clear hK K
        refine wpAny_ready (rs := [11]) (by kernel_rfl) (by simp) (AllReady.cons rfl (fun K hK => ?_) AllReady.nil)
        go_simp
        refine (HCP.out _).mono ?_
        rintro e w' ⟨rfl, hw'⟩
        rw [hw']
        clear hw'
        refine hK _ _ ?_
        clear hK K
        refine wpAny_ready (rs := [17]) (by kernel_rfl) (by simp) (AllReady.cons rfl (fun K hK => ?_) AllReady.nil)
        refine wp_app2 (.tmp 21) (.tmp 26) rfl a n n 1 ls [⟨i, q, v⟩] rfl HLN.out HRA.out rfl (some ⟨W0.heap.size, 0, none⟩) 1 rfl rfl HRX.out (by simp; omega) ?_
        intro v' w4 hr4 hb4
        have t4 := (hb4.cell hTA).trans tA
        refine hK _ _ ?_
        clear hK K
        refine wpAny_ready (rs := [18]) (by kernel_rfl) (by simp) (AllReady.cons rfl (fun K hK => ?_) AllReady.nil)
        obtain ⟨w5, hrun, htw, hli⟩ := HSET.out w4 v' _ hb4 hr4
        go_simp
        refine hK _ _ ?_
        clear hK K
        refine wpAny_done (by kernel_rfl) ?_ _
        go_end0
        exact ⟨rfl, htw, (hbA.trans (Li.of_below hb4)).trans hli⟩
      · go_simp
        refine hK _ _ ?_
        clear hK K
        refine wpAny_ready (rs := [3, 11]) (by kernel_rfl) (by simp) (AllReady.cons rfl (fun K hK => ?_) (AllReady.cons rfl (fun K hK => ?_) AllReady.nil))
        · go_simp
          refine hK _ _ ?_
          clear hK K
          refine wpAny_ready (rs := [11]) (by kernel_rfl) (by simp) (AllReady.cons rfl (fun K hK => ?_) AllReady.nil)
          go_simp
          refine (HCP.out _).mono ?_
          rintro e w' ⟨rfl, hw'⟩
          rw [hw']
          clear hw'
          refine hK _ _ ?_
          clear hK K
          refine wpAny_ready (rs := [17]) (by kernel_rfl) (by simp) (AllReady.cons rfl (fun K hK => ?_) AllReady.nil)
          refine wp_app2 (.tmp 21) (.tmp 26) rfl a n n 1 ls [⟨i, q, v⟩] rfl HLN.out HRA.out rfl (some ⟨W0.heap.size, 0, none⟩) 1 rfl rfl HRX.out (by simp; omega) ?_
          intro v' w4 hr4 hb4
          have t4 := (hb4.cell hTA).trans tA
          refine hK _ _ ?_
          clear hK K
          refine wpAny_ready (rs := [18]) (by kernel_rfl) (by simp) (AllReady.cons rfl (fun K hK => ?_) AllReady.nil)
          obtain ⟨w5, hrun, htw, hli⟩ := HSET.out w4 v' _ hb4 hr4
          go_simp
          refine hK _ _ ?_
          clear hK K
          refine wpAny_done (by kernel_rfl) ?_ _
          go_end0
          exact ⟨rfl, htw, (hbA.trans (Li.of_below hb4)).trans hli⟩
        · go_simp
          refine (HCP.out _).mono ?_
          rintro e w' ⟨rfl, hw'⟩
          rw [hw']
          clear hw'
          refine hK _ _ ?_
          clear hK K
          refine wpAny_ready (rs := [3, 17]) (by kernel_rfl) (by simp) (AllReady.cons rfl (fun K hK => ?_) (AllReady.cons rfl (fun K hK => ?_) AllReady.nil))
          · go_simp
            refine hK _ _ ?_
            clear hK K
            refine wpAny_ready (rs := [17]) (by kernel_rfl) (by simp) (AllReady.cons rfl (fun K hK => ?_) AllReady.nil)
            refine wp_app2 (.tmp 21) (.tmp 26) rfl a n n 1 ls [⟨i, q, v⟩] rfl HLN.out HRA.out rfl (some ⟨W0.heap.size, 0, none⟩) 1 rfl rfl HRX.out (by simp; omega) ?_
            intro v' w4 hr4 hb4
            have t4 := (hb4.cell hTA).trans tA
            refine hK _ _ ?_
            clear hK K
            refine wpAny_ready (rs := [18]) (by kernel_rfl) (by simp) (AllReady.cons rfl (fun K hK => ?_) AllReady.nil)
            obtain ⟨w5, hrun, htw, hli⟩ := HSET.out w4 v' _ hb4 hr4
            go_simp
            refine hK _ _ ?_
            clear hK K
            refine wpAny_done (by kernel_rfl) ?_ _
            go_end0
            exact ⟨rfl, htw, (hbA.trans (Li.of_below hb4)).trans hli⟩
          · refine wp_app2 (.tmp 21) (.tmp 26) rfl a n n 1 ls [⟨i, q, v⟩] rfl HLN.out HRA.out rfl (some ⟨W0.heap.size, 0, none⟩) 1 rfl rfl HRX.out (by simp; omega) ?_
            intro v' w4 hr4 hb4
            have t4 := (hb4.cell hTA).trans tA
            refine hK _ _ ?_
            clear hK K
            refine wpAny_ready (rs := [3]) (by kernel_rfl) (by simp) (AllReady.cons rfl (fun K hK => ?_) AllReady.nil)
            go_simp
            refine hK _ _ ?_
            clear hK K
            refine wpAny_ready (rs := [18]) (by kernel_rfl) (by simp) (AllReady.cons rfl (fun K hK => ?_) AllReady.nil)
            obtain ⟨w5, hrun, htw, hli⟩ := HSET.out w4 v' _ hb4 hr4
            go_simp
            refine hK _ _ ?_
            clear hK K
            refine wpAny_done (by kernel_rfl) ?_ _
            go_end0
            exact ⟨rfl, htw, (hbA.trans (Li.of_below hb4)).trans hli⟩
end Go.Proofs.YtackpcohmmlkeaaGreatDoor
