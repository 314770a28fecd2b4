/- The book's write. -/
import Derived.Test.YtackpcohmmlkeaaGreatDoorBkU
namespace Go.Proofs.YtackpcohmmlkeaaGreatDoor
open Go.RowKit
set_option linter.unusedVariables false

set_option maxHeartbeats 4000000 in
set_option maxRecDepth 100000 in
theorem write_any (B : Nat) (b : Bk) (e : Evt) (w : World) (h : BkW w B b) (hlen : b.l.length ≤ 130) (ht : 0 ≤ b.turn ∧ b.turn ≤ 1000000000) :
    Calls Tryz.prog 73 #[.pointer (some ⟨B, 0, none⟩), e.agg] w fun x w' => x = .returned (.tuple #[]) ∧ BkW w' B (b.write e) ∧ Ch B w w' := by
  obtain ⟨v, c0, ho⟩ := h.row
  obtain ⟨xa, xc, rfl⟩ := own_slice ho
  have c1 := h.c1
  have f1 := h.fz 1
  have hBl := h.lt
  have hne : B ≠ w.heap.size := by omega
  obtain ⟨i, s, k, q, p, o, d⟩ := e
  simp only [Evt.agg]
  obtain ⟨hT, hChT⟩ := h.setTurn (b.turn + 1)
  obtain ⟨w0, hw0⟩ : ∃ w0, w0 = w.setCell ⟨B, 1, none⟩ (.int .i64 (b.turn + 1)) := ⟨_, rfl⟩
  rw [← hw0] at hT hChT
  have hz0 : w0.heap.size = w.heap.size := by rw [hw0]; simp
  obtain ⟨W1, hW1⟩ : ∃ W1, W1 = w0.alloc (.cells #[.int .i64 i, .string s, .int .i64 k, .int .i64 q, .int .i64 p, .int .i64 o, .int .i64 d] 49) := ⟨_, rfl⟩
  have hb01 : Below w0.heap.size w0 W1 := by rw [hW1]; exact (Below.refl _ w0).new _
  have hB1 := hT.below hb01
  have hCh1 : Ch B w W1 := hChT.trans (Ch.of_below hb01 (by omega))
  obtain ⟨v1, d0, ho1⟩ := hB1.row
  have e0 : (some v1 : Option Value) = some (.slice xa b.l.length xc) := by
    rw [← d0, hb01.cell (p := ⟨B, 0, none⟩) (by show B < w0.heap.size; omega), hw0, cell_set 0 ⟨_, c1⟩, if_neg (by omega)]
    exact c0
  injection e0 with e0
  subst e0
  have d1 : W1.cell? ⟨B, 1, none⟩ = some (.int .i64 (b.turn + 1)) := hB1.c1
  have hE : ∀ j u, ([.int .i64 i, .string s, .int .i64 k, .int .i64 q, .int .i64 p, .int .i64 o, .int .i64 d] : List Value)[j]? = some u → W1.cell? ⟨w.heap.size, j, none⟩ = some u := fun j u hu => by
    rw [hW1, ← hz0]; exact new_at w0 _ _ j u (by simpa using hu)
  have E0 := hE 0 _ rfl
  have E1 := hE 1 _ rfl
  have E2 := hE 2 _ rfl
  have E3 := hE 3 _ rfl
  have E4 := hE 4 _ rfl
  have E5 := hE 5 _ rfl
  have E6 := hE 6 _ rfl
  have hBl1 : B < W1.heap.size := hB1.lt
  have hEl1 : w.heap.size < W1.heap.size := cell_lt E0
  have hxc := own_capV ho1
  have hrv := rdV_of_own ho1
  obtain ⟨W2, hW2⟩ : ∃ W2, W2 = W1.drew.alloc (.cells #[.int .i64 i, .string s, .int .i64 k, .int .i64 q, .int .i64 p, .int .i64 o, .int .i64 d, .int .i64 (b.turn + 1), .int .i64 0] 114) := ⟨_, rfl⟩
  have hb12 : Below W1.heap.size W1 W2 := by rw [hW2]; exact (Below.refl _ W1).drew.alloc (Nat.le_refl _) _
  have HRV : Hid (RdV (W1.drew.alloc (.cells #[.int .i64 i, .string s, .int .i64 k, .int .i64 q, .int .i64 p, .int .i64 o, .int .i64 d, .int .i64 (b.turn + 1), .int .i64 0] 114)) xa b.l) := Lib.hid (by rw [← hW2]; exact hrv.below hb12)
  have HBD : Hid (Below W1.heap.size W1 (W1.drew.alloc (.cells #[.int .i64 i, .string s, .int .i64 k, .int .i64 q, .int .i64 p, .int .i64 o, .int .i64 d, .int .i64 (b.turn + 1), .int .i64 0] 114))) := Lib.hid (by rw [← hW2]; exact hb12)
  have HNEW : Hid (∀ j u, (Ver.cells ⟨⟨i, s, k, q, p, o, d⟩, b.turn + 1, 0⟩)[j]? = some u → (W1.drew.alloc (.cells #[.int .i64 i, .string s, .int .i64 k, .int .i64 q, .int .i64 p, .int .i64 o, .int .i64 d, .int .i64 (b.turn + 1), .int .i64 0] 114)).cell? ((⟨W1.heap.size, 0, none⟩ : Addr).add j) = some u) := Lib.hid fun j u hu => by
    have e0 : (⟨W1.heap.size, 0, none⟩ : Addr).add j = ⟨W1.heap.size, j, none⟩ := by simp [Addr.add]; omega
    rw [e0]
    exact new_at W1.drew _ _ j u (by simpa [Ver.cells] using hu)
  have HBS : Hid (B + 1 ≤ (W1.drew.alloc (.cells #[.int .i64 i, .string s, .int .i64 k, .int .i64 q, .int .i64 p, .int .i64 o, .int .i64 d, .int .i64 (b.turn + 1), .int .i64 0] 114)).heap.size) := Lib.hid (Nat.le_trans hBl1 HBD.out.size)
  have HNIL : Hid (xa = none → b.l = []) := Lib.hid fun hx => by
    subst hx
    rcases ho1.2 with ⟨-, h0⟩ | ⟨g, cap, cur, e1, -⟩
    · exact List.length_eq_zero_iff.1 h0
    · cases e1
  have HCL := Lib.hid (fun W => clipV_any xa b.l.length xc hxc W)
  have HC0 := Lib.hid d0
  have HF0 := Lib.hid (hB1.fz 0)
  have HB1 := Lib.hid hB1
  have HCH := Lib.hid hCh1
  have HW1 := Lib.hid (hW1.trans (by rw [hw0]))
  clear hT hChT hw0 hz0 hW1 hb01 hB1 hCh1 ho1 hE hrv hW2 hb12 h ho
  go_enter Tryz.func73, Tryz.ntmps73
  go_wp2_with fail
  rw [← HW1.out]
  clear c0 c1
  refine region_cutS (T := ?T2) (fun w' => BkW w' B ⟨b.l ++ [⟨⟨i, s, k, q, p, o, d⟩, b.turn + 1, 0⟩], b.turn + 1, b.next⟩ ∧ Ch B W1 w') ?h2 ?q2
  case h2 =>
    refine wp_region_any (by kernel_rfl) ?_
    refine wpAny_take (i := 0) (v := ?_) rfl (by kernel_rfl) (by kernel_rfl) (by kernel_rfl) (fun _ _ _ h => absurd h.1 nofun) (Or.inl ⟨by rfl, ?_⟩) ?_
    rotate_left
    · intro _; go_simp; try (with_reducible rfl)
    refine wpAny_take (i := 1) (v := ?_) rfl (by kernel_rfl) (by kernel_rfl) (by kernel_rfl) (fun _ _ _ h => absurd h.1 nofun) (Or.inl ⟨by rfl, ?_⟩) ?_
    rotate_left
    · intro _; go_simp; try (with_reducible rfl)
    refine wpAny_take (i := 2) (v := ?_) rfl (by kernel_rfl) (by kernel_rfl) (by kernel_rfl) (fun _ _ _ h => absurd h.1 nofun) (Or.inl ⟨by rfl, ?_⟩) ?_
    rotate_left
    · intro _; go_simp; try (with_reducible rfl)
    refine wpAny_take (i := 3) (v := ?_) rfl (by kernel_rfl) (by kernel_rfl) (by kernel_rfl) (fun _ _ _ h => absurd h.1 nofun) (Or.inl ⟨by rfl, ?_⟩) ?_
    rotate_left
    · intro _; go_simp; try (with_reducible rfl)
    refine wpAny_take (i := 7) (v := ?_) rfl (by kernel_rfl) (by kernel_rfl) (by kernel_rfl) (fun _ _ _ h => absurd h.1 nofun) (Or.inl ⟨by rfl, ?_⟩) ?_
    rotate_left
    · intro _; go_simp; try (with_reducible rfl)
    refine wpAny_take (i := 8) (v := ?_) rfl (by kernel_rfl) (by kernel_rfl) (by kernel_rfl) (fun _ _ _ h => absurd h.1 nofun) (Or.inl ⟨by rfl, ?_⟩) ?_
    rotate_left
    · intro _; go_simp; try (with_reducible rfl)
    refine wpAny_take (i := 9) (v := ?_) rfl (by kernel_rfl) (by kernel_rfl) (by kernel_rfl) (fun _ _ _ h => absurd h.1 nofun) (Or.inl ⟨by rfl, ?_⟩) ?_
    rotate_left
    · intro _; go_simp; try (with_reducible rfl)
    refine wpAny_ready (rs := [4, 6, 10]) (by kernel_rfl) (by simp) (AllReady.cons rfl (fun K hK => ?_) (AllReady.cons rfl (fun K hK => ?_) (AllReady.cons rfl (fun K hK => ?_) AllReady.nil)))
    · go_simp
      refine hK _ _ ?_
      clear hK K
      refine wpAny_ready (rs := [5, 6, 10]) (by kernel_rfl) (by simp) (AllReady.cons rfl (fun K hK => ?_) (AllReady.cons rfl (fun K hK => ?_) (AllReady.cons rfl (fun K hK => ?_) AllReady.nil)))
      · go_simp
        refine (HCL.out _).mono ?_
        rintro e w13 ⟨rfl, hw13⟩
        rw [hw13]
        clear hw13
        refine hK _ _ ?_
        clear hK K
        refine wpAny_ready (rs := [6, 10]) (by kernel_rfl) (by simp) (AllReady.cons rfl (fun K hK => ?_) (AllReady.cons rfl (fun K hK => ?_) AllReady.nil))
        · go_simp
          refine hK _ _ ?_
          clear hK K
          refine wpAny_ready (rs := [10]) (by kernel_rfl) (by simp) (AllReady.cons rfl (fun K hK => ?_) AllReady.nil)
          go_simp
          refine hK _ _ ?_
          clear hK K
          refine wpAny_ready (rs := [11]) (by kernel_rfl) (by simp) (AllReady.cons rfl (fun K hK => ?_) AllReady.nil)
          go_simp
          refine hK _ _ ?_
          clear hK K
          refine wpAny_ready (rs := [12]) (by kernel_rfl) (by simp) (AllReady.cons rfl (fun K hK => ?_) AllReady.nil)
          go_simp
          refine hK _ _ ?_
          clear hK K
          refine wpAny_ready (rs := [13]) (by kernel_rfl) (by simp) (AllReady.cons rfl (fun K hK => ?_) AllReady.nil)
          refine wp_appV (.tmp 16) (.tmp 23) rfl xa b.l ⟨⟨i, s, k, q, p, o, d⟩, b.turn + 1, 0⟩ rfl HRV.out HNIL.out ⟨W1.heap.size, 0, none⟩ 1 rfl HNEW.out (by omega) (B + 1) HBS.out ?_
          intro v2 w14 hoa hba
          obtain ⟨ya, yc, rfl⟩ := own_slice hoa
          have hbz := HBD.out.step hba
          have cz0 := (hbz.cell (p := ⟨B, 0, none⟩) hBl1).trans HC0.out
          have fz0 := (hbz.frozen (p := ⟨B, 0, none⟩) hBl1).trans HF0.out
          have hfin := Lib.hid (write_fin HB1.out hbz hoa)
          clear hoa hba hbz
          refine hK _ _ ?_
          clear hK K
          refine wpAny_ready (rs := [14]) (by kernel_rfl) (by simp) (AllReady.cons rfl (fun K hK => ?_) AllReady.nil)
          go_simp
          refine hK _ _ ?_
          clear hK K
          refine wpAny_ready (rs := [15]) (by kernel_rfl) (by simp) (AllReady.cons rfl (fun K hK => ?_) AllReady.nil)
          go_simp
          refine hK _ _ ?_
          clear hK K
          refine wpAny_ready (rs := [16]) (by kernel_rfl) (by simp) (AllReady.cons rfl (fun K hK => ?_) AllReady.nil)
          go_simp
          refine hK _ _ ?_
          clear hK K
          refine wpAny_done (by kernel_rfl) ?_ _
          refine ⟨rfl, ya, yc, ?_, hfin.out⟩
          exact rfl
        · go_simp
          refine hK _ _ ?_
          clear hK K
          refine wpAny_ready (rs := [6]) (by kernel_rfl) (by simp) (AllReady.cons rfl (fun K hK => ?_) AllReady.nil)
          go_simp
          refine hK _ _ ?_
          clear hK K
          refine wpAny_ready (rs := [11]) (by kernel_rfl) (by simp) (AllReady.cons rfl (fun K hK => ?_) AllReady.nil)
          go_simp
          refine hK _ _ ?_
          clear hK K
          refine wpAny_ready (rs := [12]) (by kernel_rfl) (by simp) (AllReady.cons rfl (fun K hK => ?_) AllReady.nil)
          go_simp
          refine hK _ _ ?_
          clear hK K
          refine wpAny_ready (rs := [13]) (by kernel_rfl) (by simp) (AllReady.cons rfl (fun K hK => ?_) AllReady.nil)
          refine wp_appV (.tmp 16) (.tmp 23) rfl xa b.l ⟨⟨i, s, k, q, p, o, d⟩, b.turn + 1, 0⟩ rfl HRV.out HNIL.out ⟨W1.heap.size, 0, none⟩ 1 rfl HNEW.out (by omega) (B + 1) HBS.out ?_
          intro v2 w14 hoa hba
          obtain ⟨ya, yc, rfl⟩ := own_slice hoa
          have hbz := HBD.out.step hba
          have cz0 := (hbz.cell (p := ⟨B, 0, none⟩) hBl1).trans HC0.out
          have fz0 := (hbz.frozen (p := ⟨B, 0, none⟩) hBl1).trans HF0.out
          have hfin := Lib.hid (write_fin HB1.out hbz hoa)
          clear hoa hba hbz
          refine hK _ _ ?_
          clear hK K
          refine wpAny_ready (rs := [14]) (by kernel_rfl) (by simp) (AllReady.cons rfl (fun K hK => ?_) AllReady.nil)
          go_simp
          refine hK _ _ ?_
          clear hK K
          refine wpAny_ready (rs := [15]) (by kernel_rfl) (by simp) (AllReady.cons rfl (fun K hK => ?_) AllReady.nil)
          go_simp
          refine hK _ _ ?_
          clear hK K
          refine wpAny_ready (rs := [16]) (by kernel_rfl) (by simp) (AllReady.cons rfl (fun K hK => ?_) AllReady.nil)
          go_simp
          refine hK _ _ ?_
          clear hK K
          refine wpAny_done (by kernel_rfl) ?_ _
          refine ⟨rfl, ya, yc, ?_, hfin.out⟩
          exact rfl
      · go_simp
        refine hK _ _ ?_
        clear hK K
        refine wpAny_ready (rs := [5, 10]) (by kernel_rfl) (by simp) (AllReady.cons rfl (fun K hK => ?_) (AllReady.cons rfl (fun K hK => ?_) AllReady.nil))
        · go_simp
          refine (HCL.out _).mono ?_
          rintro e w13 ⟨rfl, hw13⟩
          rw [hw13]
          clear hw13
          refine hK _ _ ?_
          clear hK K
          refine wpAny_ready (rs := [10]) (by kernel_rfl) (by simp) (AllReady.cons rfl (fun K hK => ?_) AllReady.nil)
          go_simp
          refine hK _ _ ?_
          clear hK K
          refine wpAny_ready (rs := [11]) (by kernel_rfl) (by simp) (AllReady.cons rfl (fun K hK => ?_) AllReady.nil)
          go_simp
          refine hK _ _ ?_
          clear hK K
          refine wpAny_ready (rs := [12]) (by kernel_rfl) (by simp) (AllReady.cons rfl (fun K hK => ?_) AllReady.nil)
          go_simp
          refine hK _ _ ?_
          clear hK K
          refine wpAny_ready (rs := [13]) (by kernel_rfl) (by simp) (AllReady.cons rfl (fun K hK => ?_) AllReady.nil)
          refine wp_appV (.tmp 16) (.tmp 23) rfl xa b.l ⟨⟨i, s, k, q, p, o, d⟩, b.turn + 1, 0⟩ rfl HRV.out HNIL.out ⟨W1.heap.size, 0, none⟩ 1 rfl HNEW.out (by omega) (B + 1) HBS.out ?_
          intro v2 w14 hoa hba
          obtain ⟨ya, yc, rfl⟩ := own_slice hoa
          have hbz := HBD.out.step hba
          have cz0 := (hbz.cell (p := ⟨B, 0, none⟩) hBl1).trans HC0.out
          have fz0 := (hbz.frozen (p := ⟨B, 0, none⟩) hBl1).trans HF0.out
          have hfin := Lib.hid (write_fin HB1.out hbz hoa)
          clear hoa hba hbz
          refine hK _ _ ?_
          clear hK K
          refine wpAny_ready (rs := [14]) (by kernel_rfl) (by simp) (AllReady.cons rfl (fun K hK => ?_) AllReady.nil)
          go_simp
          refine hK _ _ ?_
          clear hK K
          refine wpAny_ready (rs := [15]) (by kernel_rfl) (by simp) (AllReady.cons rfl (fun K hK => ?_) AllReady.nil)
          go_simp
          refine hK _ _ ?_
          clear hK K
          refine wpAny_ready (rs := [16]) (by kernel_rfl) (by simp) (AllReady.cons rfl (fun K hK => ?_) AllReady.nil)
          go_simp
          refine hK _ _ ?_
          clear hK K
          refine wpAny_done (by kernel_rfl) ?_ _
          refine ⟨rfl, ya, yc, ?_, hfin.out⟩
          exact rfl
        · go_simp
          refine hK _ _ ?_
          clear hK K
          refine wpAny_ready (rs := [5, 11]) (by kernel_rfl) (by simp) (AllReady.cons rfl (fun K hK => ?_) (AllReady.cons rfl (fun K hK => ?_) AllReady.nil))
          · go_simp
            refine (HCL.out _).mono ?_
            rintro e w13 ⟨rfl, hw13⟩
            rw [hw13]
            clear hw13
            refine hK _ _ ?_
            clear hK K
            refine wpAny_ready (rs := [11]) (by kernel_rfl) (by simp) (AllReady.cons rfl (fun K hK => ?_) AllReady.nil)
            go_simp
            refine hK _ _ ?_
            clear hK K
            refine wpAny_ready (rs := [12]) (by kernel_rfl) (by simp) (AllReady.cons rfl (fun K hK => ?_) AllReady.nil)
            go_simp
            refine hK _ _ ?_
            clear hK K
            refine wpAny_ready (rs := [13]) (by kernel_rfl) (by simp) (AllReady.cons rfl (fun K hK => ?_) AllReady.nil)
            refine wp_appV (.tmp 16) (.tmp 23) rfl xa b.l ⟨⟨i, s, k, q, p, o, d⟩, b.turn + 1, 0⟩ rfl HRV.out HNIL.out ⟨W1.heap.size, 0, none⟩ 1 rfl HNEW.out (by omega) (B + 1) HBS.out ?_
            intro v2 w14 hoa hba
            obtain ⟨ya, yc, rfl⟩ := own_slice hoa
            have hbz := HBD.out.step hba
            have cz0 := (hbz.cell (p := ⟨B, 0, none⟩) hBl1).trans HC0.out
            have fz0 := (hbz.frozen (p := ⟨B, 0, none⟩) hBl1).trans HF0.out
            have hfin := Lib.hid (write_fin HB1.out hbz hoa)
            clear hoa hba hbz
            refine hK _ _ ?_
            clear hK K
            refine wpAny_ready (rs := [14]) (by kernel_rfl) (by simp) (AllReady.cons rfl (fun K hK => ?_) AllReady.nil)
            go_simp
            refine hK _ _ ?_
            clear hK K
            refine wpAny_ready (rs := [15]) (by kernel_rfl) (by simp) (AllReady.cons rfl (fun K hK => ?_) AllReady.nil)
            go_simp
            refine hK _ _ ?_
            clear hK K
            refine wpAny_ready (rs := [16]) (by kernel_rfl) (by simp) (AllReady.cons rfl (fun K hK => ?_) AllReady.nil)
            go_simp
            refine hK _ _ ?_
            clear hK K
            refine wpAny_done (by kernel_rfl) ?_ _
            refine ⟨rfl, ya, yc, ?_, hfin.out⟩
            exact rfl
          · go_simp
            refine hK _ _ ?_
            clear hK K
            refine wpAny_ready (rs := [5, 12]) (by kernel_rfl) (by simp) (AllReady.cons rfl (fun K hK => ?_) (AllReady.cons rfl (fun K hK => ?_) AllReady.nil))
            · go_simp
              refine (HCL.out _).mono ?_
              rintro e w13 ⟨rfl, hw13⟩
              rw [hw13]
              clear hw13
              refine hK _ _ ?_
              clear hK K
              refine wpAny_ready (rs := [12]) (by kernel_rfl) (by simp) (AllReady.cons rfl (fun K hK => ?_) AllReady.nil)
              go_simp
              refine hK _ _ ?_
              clear hK K
              refine wpAny_ready (rs := [13]) (by kernel_rfl) (by simp) (AllReady.cons rfl (fun K hK => ?_) AllReady.nil)
              refine wp_appV (.tmp 16) (.tmp 23) rfl xa b.l ⟨⟨i, s, k, q, p, o, d⟩, b.turn + 1, 0⟩ rfl HRV.out HNIL.out ⟨W1.heap.size, 0, none⟩ 1 rfl HNEW.out (by omega) (B + 1) HBS.out ?_
              intro v2 w14 hoa hba
              obtain ⟨ya, yc, rfl⟩ := own_slice hoa
              have hbz := HBD.out.step hba
              have cz0 := (hbz.cell (p := ⟨B, 0, none⟩) hBl1).trans HC0.out
              have fz0 := (hbz.frozen (p := ⟨B, 0, none⟩) hBl1).trans HF0.out
              have hfin := Lib.hid (write_fin HB1.out hbz hoa)
              clear hoa hba hbz
              refine hK _ _ ?_
              clear hK K
              refine wpAny_ready (rs := [14]) (by kernel_rfl) (by simp) (AllReady.cons rfl (fun K hK => ?_) AllReady.nil)
              go_simp
              refine hK _ _ ?_
              clear hK K
              refine wpAny_ready (rs := [15]) (by kernel_rfl) (by simp) (AllReady.cons rfl (fun K hK => ?_) AllReady.nil)
              go_simp
              refine hK _ _ ?_
              clear hK K
              refine wpAny_ready (rs := [16]) (by kernel_rfl) (by simp) (AllReady.cons rfl (fun K hK => ?_) AllReady.nil)
              go_simp
              refine hK _ _ ?_
              clear hK K
              refine wpAny_done (by kernel_rfl) ?_ _
              refine ⟨rfl, ya, yc, ?_, hfin.out⟩
              exact rfl
            · go_simp
              refine hK _ _ ?_
              clear hK K
              refine wpAny_ready (rs := [5]) (by kernel_rfl) (by simp) (AllReady.cons rfl (fun K hK => ?_) AllReady.nil)
              go_simp
              refine (HCL.out _).mono ?_
              rintro e w13 ⟨rfl, hw13⟩
              rw [hw13]
              clear hw13
              refine hK _ _ ?_
              clear hK K
              refine wpAny_ready (rs := [13]) (by kernel_rfl) (by simp) (AllReady.cons rfl (fun K hK => ?_) AllReady.nil)
              refine wp_appV (.tmp 16) (.tmp 23) rfl xa b.l ⟨⟨i, s, k, q, p, o, d⟩, b.turn + 1, 0⟩ rfl HRV.out HNIL.out ⟨W1.heap.size, 0, none⟩ 1 rfl HNEW.out (by omega) (B + 1) HBS.out ?_
              intro v2 w14 hoa hba
              obtain ⟨ya, yc, rfl⟩ := own_slice hoa
              have hbz := HBD.out.step hba
              have cz0 := (hbz.cell (p := ⟨B, 0, none⟩) hBl1).trans HC0.out
              have fz0 := (hbz.frozen (p := ⟨B, 0, none⟩) hBl1).trans HF0.out
              have hfin := Lib.hid (write_fin HB1.out hbz hoa)
              clear hoa hba hbz
              refine hK _ _ ?_
              clear hK K
              refine wpAny_ready (rs := [14]) (by kernel_rfl) (by simp) (AllReady.cons rfl (fun K hK => ?_) AllReady.nil)
              go_simp
              refine hK _ _ ?_
              clear hK K
              refine wpAny_ready (rs := [15]) (by kernel_rfl) (by simp) (AllReady.cons rfl (fun K hK => ?_) AllReady.nil)
              go_simp
              refine hK _ _ ?_
              clear hK K
              refine wpAny_ready (rs := [16]) (by kernel_rfl) (by simp) (AllReady.cons rfl (fun K hK => ?_) AllReady.nil)
              go_simp
              refine hK _ _ ?_
              clear hK K
              refine wpAny_done (by kernel_rfl) ?_ _
              refine ⟨rfl, ya, yc, ?_, hfin.out⟩
              exact rfl
      · go_simp
        refine hK _ _ ?_
        clear hK K
        refine wpAny_ready (rs := [5, 6]) (by kernel_rfl) (by simp) (AllReady.cons rfl (fun K hK => ?_) (AllReady.cons rfl (fun K hK => ?_) AllReady.nil))
        · go_simp
          refine (HCL.out _).mono ?_
          rintro e w13 ⟨rfl, hw13⟩
          rw [hw13]
          clear hw13
          refine hK _ _ ?_
          clear hK K
          refine wpAny_ready (rs := [6]) (by kernel_rfl) (by simp) (AllReady.cons rfl (fun K hK => ?_) AllReady.nil)
          go_simp
          refine hK _ _ ?_
          clear hK K
          refine wpAny_ready (rs := [11]) (by kernel_rfl) (by simp) (AllReady.cons rfl (fun K hK => ?_) AllReady.nil)
          go_simp
          refine hK _ _ ?_
          clear hK K
          refine wpAny_ready (rs := [12]) (by kernel_rfl) (by simp) (AllReady.cons rfl (fun K hK => ?_) AllReady.nil)
          go_simp
          refine hK _ _ ?_
          clear hK K
          refine wpAny_ready (rs := [13]) (by kernel_rfl) (by simp) (AllReady.cons rfl (fun K hK => ?_) AllReady.nil)
          refine wp_appV (.tmp 16) (.tmp 23) rfl xa b.l ⟨⟨i, s, k, q, p, o, d⟩, b.turn + 1, 0⟩ rfl HRV.out HNIL.out ⟨W1.heap.size, 0, none⟩ 1 rfl HNEW.out (by omega) (B + 1) HBS.out ?_
          intro v2 w14 hoa hba
          obtain ⟨ya, yc, rfl⟩ := own_slice hoa
          have hbz := HBD.out.step hba
          have cz0 := (hbz.cell (p := ⟨B, 0, none⟩) hBl1).trans HC0.out
          have fz0 := (hbz.frozen (p := ⟨B, 0, none⟩) hBl1).trans HF0.out
          have hfin := Lib.hid (write_fin HB1.out hbz hoa)
          clear hoa hba hbz
          refine hK _ _ ?_
          clear hK K
          refine wpAny_ready (rs := [14]) (by kernel_rfl) (by simp) (AllReady.cons rfl (fun K hK => ?_) AllReady.nil)
          go_simp
          refine hK _ _ ?_
          clear hK K
          refine wpAny_ready (rs := [15]) (by kernel_rfl) (by simp) (AllReady.cons rfl (fun K hK => ?_) AllReady.nil)
          go_simp
          refine hK _ _ ?_
          clear hK K
          refine wpAny_ready (rs := [16]) (by kernel_rfl) (by simp) (AllReady.cons rfl (fun K hK => ?_) AllReady.nil)
          go_simp
          refine hK _ _ ?_
          clear hK K
          refine wpAny_done (by kernel_rfl) ?_ _
          refine ⟨rfl, ya, yc, ?_, hfin.out⟩
          exact rfl
        · go_simp
          refine hK _ _ ?_
          clear hK K
          refine wpAny_ready (rs := [5, 11]) (by kernel_rfl) (by simp) (AllReady.cons rfl (fun K hK => ?_) (AllReady.cons rfl (fun K hK => ?_) AllReady.nil))
          · go_simp
            refine (HCL.out _).mono ?_
            rintro e w13 ⟨rfl, hw13⟩
            rw [hw13]
            clear hw13
            refine hK _ _ ?_
            clear hK K
            refine wpAny_ready (rs := [11]) (by kernel_rfl) (by simp) (AllReady.cons rfl (fun K hK => ?_) AllReady.nil)
            go_simp
            refine hK _ _ ?_
            clear hK K
            refine wpAny_ready (rs := [12]) (by kernel_rfl) (by simp) (AllReady.cons rfl (fun K hK => ?_) AllReady.nil)
            go_simp
            refine hK _ _ ?_
            clear hK K
            refine wpAny_ready (rs := [13]) (by kernel_rfl) (by simp) (AllReady.cons rfl (fun K hK => ?_) AllReady.nil)
            refine wp_appV (.tmp 16) (.tmp 23) rfl xa b.l ⟨⟨i, s, k, q, p, o, d⟩, b.turn + 1, 0⟩ rfl HRV.out HNIL.out ⟨W1.heap.size, 0, none⟩ 1 rfl HNEW.out (by omega) (B + 1) HBS.out ?_
            intro v2 w14 hoa hba
            obtain ⟨ya, yc, rfl⟩ := own_slice hoa
            have hbz := HBD.out.step hba
            have cz0 := (hbz.cell (p := ⟨B, 0, none⟩) hBl1).trans HC0.out
            have fz0 := (hbz.frozen (p := ⟨B, 0, none⟩) hBl1).trans HF0.out
            have hfin := Lib.hid (write_fin HB1.out hbz hoa)
            clear hoa hba hbz
            refine hK _ _ ?_
            clear hK K
            refine wpAny_ready (rs := [14]) (by kernel_rfl) (by simp) (AllReady.cons rfl (fun K hK => ?_) AllReady.nil)
            go_simp
            refine hK _ _ ?_
            clear hK K
            refine wpAny_ready (rs := [15]) (by kernel_rfl) (by simp) (AllReady.cons rfl (fun K hK => ?_) AllReady.nil)
            go_simp
            refine hK _ _ ?_
            clear hK K
            refine wpAny_ready (rs := [16]) (by kernel_rfl) (by simp) (AllReady.cons rfl (fun K hK => ?_) AllReady.nil)
            go_simp
            refine hK _ _ ?_
            clear hK K
            refine wpAny_done (by kernel_rfl) ?_ _
            refine ⟨rfl, ya, yc, ?_, hfin.out⟩
            exact rfl
          · go_simp
            refine hK _ _ ?_
            clear hK K
            refine wpAny_ready (rs := [5, 12]) (by kernel_rfl) (by simp) (AllReady.cons rfl (fun K hK => ?_) (AllReady.cons rfl (fun K hK => ?_) AllReady.nil))
            · go_simp
              refine (HCL.out _).mono ?_
              rintro e w13 ⟨rfl, hw13⟩
              rw [hw13]
              clear hw13
              refine hK _ _ ?_
              clear hK K
              refine wpAny_ready (rs := [12]) (by kernel_rfl) (by simp) (AllReady.cons rfl (fun K hK => ?_) AllReady.nil)
              go_simp
              refine hK _ _ ?_
              clear hK K
              refine wpAny_ready (rs := [13]) (by kernel_rfl) (by simp) (AllReady.cons rfl (fun K hK => ?_) AllReady.nil)
              refine wp_appV (.tmp 16) (.tmp 23) rfl xa b.l ⟨⟨i, s, k, q, p, o, d⟩, b.turn + 1, 0⟩ rfl HRV.out HNIL.out ⟨W1.heap.size, 0, none⟩ 1 rfl HNEW.out (by omega) (B + 1) HBS.out ?_
              intro v2 w14 hoa hba
              obtain ⟨ya, yc, rfl⟩ := own_slice hoa
              have hbz := HBD.out.step hba
              have cz0 := (hbz.cell (p := ⟨B, 0, none⟩) hBl1).trans HC0.out
              have fz0 := (hbz.frozen (p := ⟨B, 0, none⟩) hBl1).trans HF0.out
              have hfin := Lib.hid (write_fin HB1.out hbz hoa)
              clear hoa hba hbz
              refine hK _ _ ?_
              clear hK K
              refine wpAny_ready (rs := [14]) (by kernel_rfl) (by simp) (AllReady.cons rfl (fun K hK => ?_) AllReady.nil)
              go_simp
              refine hK _ _ ?_
              clear hK K
              refine wpAny_ready (rs := [15]) (by kernel_rfl) (by simp) (AllReady.cons rfl (fun K hK => ?_) AllReady.nil)
              go_simp
              refine hK _ _ ?_
              clear hK K
              refine wpAny_ready (rs := [16]) (by kernel_rfl) (by simp) (AllReady.cons rfl (fun K hK => ?_) AllReady.nil)
              go_simp
              refine hK _ _ ?_
              clear hK K
              refine wpAny_done (by kernel_rfl) ?_ _
              refine ⟨rfl, ya, yc, ?_, hfin.out⟩
              exact rfl
            · go_simp
              refine hK _ _ ?_
              clear hK K
              refine wpAny_ready (rs := [5]) (by kernel_rfl) (by simp) (AllReady.cons rfl (fun K hK => ?_) AllReady.nil)
              go_simp
              refine (HCL.out _).mono ?_
              rintro e w13 ⟨rfl, hw13⟩
              rw [hw13]
              clear hw13
              refine hK _ _ ?_
              clear hK K
              refine wpAny_ready (rs := [13]) (by kernel_rfl) (by simp) (AllReady.cons rfl (fun K hK => ?_) AllReady.nil)
              refine wp_appV (.tmp 16) (.tmp 23) rfl xa b.l ⟨⟨i, s, k, q, p, o, d⟩, b.turn + 1, 0⟩ rfl HRV.out HNIL.out ⟨W1.heap.size, 0, none⟩ 1 rfl HNEW.out (by omega) (B + 1) HBS.out ?_
              intro v2 w14 hoa hba
              obtain ⟨ya, yc, rfl⟩ := own_slice hoa
              have hbz := HBD.out.step hba
              have cz0 := (hbz.cell (p := ⟨B, 0, none⟩) hBl1).trans HC0.out
              have fz0 := (hbz.frozen (p := ⟨B, 0, none⟩) hBl1).trans HF0.out
              have hfin := Lib.hid (write_fin HB1.out hbz hoa)
              clear hoa hba hbz
              refine hK _ _ ?_
              clear hK K
              refine wpAny_ready (rs := [14]) (by kernel_rfl) (by simp) (AllReady.cons rfl (fun K hK => ?_) AllReady.nil)
              go_simp
              refine hK _ _ ?_
              clear hK K
              refine wpAny_ready (rs := [15]) (by kernel_rfl) (by simp) (AllReady.cons rfl (fun K hK => ?_) AllReady.nil)
              go_simp
              refine hK _ _ ?_
              clear hK K
              refine wpAny_ready (rs := [16]) (by kernel_rfl) (by simp) (AllReady.cons rfl (fun K hK => ?_) AllReady.nil)
              go_simp
              refine hK _ _ ?_
              clear hK K
              refine wpAny_done (by kernel_rfl) ?_ _
              refine ⟨rfl, ya, yc, ?_, hfin.out⟩
              exact rfl
    · go_simp
      refine hK _ _ ?_
      clear hK K
      refine wpAny_ready (rs := [4, 10]) (by kernel_rfl) (by simp) (AllReady.cons rfl (fun K hK => ?_) (AllReady.cons rfl (fun K hK => ?_) AllReady.nil))
      · go_simp
        refine hK _ _ ?_
        clear hK K
        refine wpAny_ready (rs := [5, 10]) (by kernel_rfl) (by simp) (AllReady.cons rfl (fun K hK => ?_) (AllReady.cons rfl (fun K hK => ?_) AllReady.nil))
        · go_simp
          refine (HCL.out _).mono ?_
          rintro e w13 ⟨rfl, hw13⟩
          rw [hw13]
          clear hw13
          refine hK _ _ ?_
          clear hK K
          refine wpAny_ready (rs := [10]) (by kernel_rfl) (by simp) (AllReady.cons rfl (fun K hK => ?_) AllReady.nil)
          go_simp
          refine hK _ _ ?_
          clear hK K
          refine wpAny_ready (rs := [11]) (by kernel_rfl) (by simp) (AllReady.cons rfl (fun K hK => ?_) AllReady.nil)
          go_simp
          refine hK _ _ ?_
          clear hK K
          refine wpAny_ready (rs := [12]) (by kernel_rfl) (by simp) (AllReady.cons rfl (fun K hK => ?_) AllReady.nil)
          go_simp
          refine hK _ _ ?_
          clear hK K
          refine wpAny_ready (rs := [13]) (by kernel_rfl) (by simp) (AllReady.cons rfl (fun K hK => ?_) AllReady.nil)
          refine wp_appV (.tmp 16) (.tmp 23) rfl xa b.l ⟨⟨i, s, k, q, p, o, d⟩, b.turn + 1, 0⟩ rfl HRV.out HNIL.out ⟨W1.heap.size, 0, none⟩ 1 rfl HNEW.out (by omega) (B + 1) HBS.out ?_
          intro v2 w14 hoa hba
          obtain ⟨ya, yc, rfl⟩ := own_slice hoa
          have hbz := HBD.out.step hba
          have cz0 := (hbz.cell (p := ⟨B, 0, none⟩) hBl1).trans HC0.out
          have fz0 := (hbz.frozen (p := ⟨B, 0, none⟩) hBl1).trans HF0.out
          have hfin := Lib.hid (write_fin HB1.out hbz hoa)
          clear hoa hba hbz
          refine hK _ _ ?_
          clear hK K
          refine wpAny_ready (rs := [14]) (by kernel_rfl) (by simp) (AllReady.cons rfl (fun K hK => ?_) AllReady.nil)
          go_simp
          refine hK _ _ ?_
          clear hK K
          refine wpAny_ready (rs := [15]) (by kernel_rfl) (by simp) (AllReady.cons rfl (fun K hK => ?_) AllReady.nil)
          go_simp
          refine hK _ _ ?_
          clear hK K
          refine wpAny_ready (rs := [16]) (by kernel_rfl) (by simp) (AllReady.cons rfl (fun K hK => ?_) AllReady.nil)
          go_simp
          refine hK _ _ ?_
          clear hK K
          refine wpAny_done (by kernel_rfl) ?_ _
          refine ⟨rfl, ya, yc, ?_, hfin.out⟩
          exact rfl
        · go_simp
          refine hK _ _ ?_
          clear hK K
          refine wpAny_ready (rs := [5, 11]) (by kernel_rfl) (by simp) (AllReady.cons rfl (fun K hK => ?_) (AllReady.cons rfl (fun K hK => ?_) AllReady.nil))
          · go_simp
            refine (HCL.out _).mono ?_
            rintro e w13 ⟨rfl, hw13⟩
            rw [hw13]
            clear hw13
            refine hK _ _ ?_
            clear hK K
            refine wpAny_ready (rs := [11]) (by kernel_rfl) (by simp) (AllReady.cons rfl (fun K hK => ?_) AllReady.nil)
            go_simp
            refine hK _ _ ?_
            clear hK K
            refine wpAny_ready (rs := [12]) (by kernel_rfl) (by simp) (AllReady.cons rfl (fun K hK => ?_) AllReady.nil)
            go_simp
            refine hK _ _ ?_
            clear hK K
            refine wpAny_ready (rs := [13]) (by kernel_rfl) (by simp) (AllReady.cons rfl (fun K hK => ?_) AllReady.nil)
            refine wp_appV (.tmp 16) (.tmp 23) rfl xa b.l ⟨⟨i, s, k, q, p, o, d⟩, b.turn + 1, 0⟩ rfl HRV.out HNIL.out ⟨W1.heap.size, 0, none⟩ 1 rfl HNEW.out (by omega) (B + 1) HBS.out ?_
            intro v2 w14 hoa hba
            obtain ⟨ya, yc, rfl⟩ := own_slice hoa
            have hbz := HBD.out.step hba
            have cz0 := (hbz.cell (p := ⟨B, 0, none⟩) hBl1).trans HC0.out
            have fz0 := (hbz.frozen (p := ⟨B, 0, none⟩) hBl1).trans HF0.out
            have hfin := Lib.hid (write_fin HB1.out hbz hoa)
            clear hoa hba hbz
            refine hK _ _ ?_
            clear hK K
            refine wpAny_ready (rs := [14]) (by kernel_rfl) (by simp) (AllReady.cons rfl (fun K hK => ?_) AllReady.nil)
            go_simp
            refine hK _ _ ?_
            clear hK K
            refine wpAny_ready (rs := [15]) (by kernel_rfl) (by simp) (AllReady.cons rfl (fun K hK => ?_) AllReady.nil)
            go_simp
            refine hK _ _ ?_
            clear hK K
            refine wpAny_ready (rs := [16]) (by kernel_rfl) (by simp) (AllReady.cons rfl (fun K hK => ?_) AllReady.nil)
            go_simp
            refine hK _ _ ?_
            clear hK K
            refine wpAny_done (by kernel_rfl) ?_ _
            refine ⟨rfl, ya, yc, ?_, hfin.out⟩
            exact rfl
          · go_simp
            refine hK _ _ ?_
            clear hK K
            refine wpAny_ready (rs := [5, 12]) (by kernel_rfl) (by simp) (AllReady.cons rfl (fun K hK => ?_) (AllReady.cons rfl (fun K hK => ?_) AllReady.nil))
            · go_simp
              refine (HCL.out _).mono ?_
              rintro e w13 ⟨rfl, hw13⟩
              rw [hw13]
              clear hw13
              refine hK _ _ ?_
              clear hK K
              refine wpAny_ready (rs := [12]) (by kernel_rfl) (by simp) (AllReady.cons rfl (fun K hK => ?_) AllReady.nil)
              go_simp
              refine hK _ _ ?_
              clear hK K
              refine wpAny_ready (rs := [13]) (by kernel_rfl) (by simp) (AllReady.cons rfl (fun K hK => ?_) AllReady.nil)
              refine wp_appV (.tmp 16) (.tmp 23) rfl xa b.l ⟨⟨i, s, k, q, p, o, d⟩, b.turn + 1, 0⟩ rfl HRV.out HNIL.out ⟨W1.heap.size, 0, none⟩ 1 rfl HNEW.out (by omega) (B + 1) HBS.out ?_
              intro v2 w14 hoa hba
              obtain ⟨ya, yc, rfl⟩ := own_slice hoa
              have hbz := HBD.out.step hba
              have cz0 := (hbz.cell (p := ⟨B, 0, none⟩) hBl1).trans HC0.out
              have fz0 := (hbz.frozen (p := ⟨B, 0, none⟩) hBl1).trans HF0.out
              have hfin := Lib.hid (write_fin HB1.out hbz hoa)
              clear hoa hba hbz
              refine hK _ _ ?_
              clear hK K
              refine wpAny_ready (rs := [14]) (by kernel_rfl) (by simp) (AllReady.cons rfl (fun K hK => ?_) AllReady.nil)
              go_simp
              refine hK _ _ ?_
              clear hK K
              refine wpAny_ready (rs := [15]) (by kernel_rfl) (by simp) (AllReady.cons rfl (fun K hK => ?_) AllReady.nil)
              go_simp
              refine hK _ _ ?_
              clear hK K
              refine wpAny_ready (rs := [16]) (by kernel_rfl) (by simp) (AllReady.cons rfl (fun K hK => ?_) AllReady.nil)
              go_simp
              refine hK _ _ ?_
              clear hK K
              refine wpAny_done (by kernel_rfl) ?_ _
              refine ⟨rfl, ya, yc, ?_, hfin.out⟩
              exact rfl
            · go_simp
              refine hK _ _ ?_
              clear hK K
              refine wpAny_ready (rs := [5]) (by kernel_rfl) (by simp) (AllReady.cons rfl (fun K hK => ?_) AllReady.nil)
              go_simp
              refine (HCL.out _).mono ?_
              rintro e w13 ⟨rfl, hw13⟩
              rw [hw13]
              clear hw13
              refine hK _ _ ?_
              clear hK K
              refine wpAny_ready (rs := [13]) (by kernel_rfl) (by simp) (AllReady.cons rfl (fun K hK => ?_) AllReady.nil)
              refine wp_appV (.tmp 16) (.tmp 23) rfl xa b.l ⟨⟨i, s, k, q, p, o, d⟩, b.turn + 1, 0⟩ rfl HRV.out HNIL.out ⟨W1.heap.size, 0, none⟩ 1 rfl HNEW.out (by omega) (B + 1) HBS.out ?_
              intro v2 w14 hoa hba
              obtain ⟨ya, yc, rfl⟩ := own_slice hoa
              have hbz := HBD.out.step hba
              have cz0 := (hbz.cell (p := ⟨B, 0, none⟩) hBl1).trans HC0.out
              have fz0 := (hbz.frozen (p := ⟨B, 0, none⟩) hBl1).trans HF0.out
              have hfin := Lib.hid (write_fin HB1.out hbz hoa)
              clear hoa hba hbz
              refine hK _ _ ?_
              clear hK K
              refine wpAny_ready (rs := [14]) (by kernel_rfl) (by simp) (AllReady.cons rfl (fun K hK => ?_) AllReady.nil)
              go_simp
              refine hK _ _ ?_
              clear hK K
              refine wpAny_ready (rs := [15]) (by kernel_rfl) (by simp) (AllReady.cons rfl (fun K hK => ?_) AllReady.nil)
              go_simp
              refine hK _ _ ?_
              clear hK K
              refine wpAny_ready (rs := [16]) (by kernel_rfl) (by simp) (AllReady.cons rfl (fun K hK => ?_) AllReady.nil)
              go_simp
              refine hK _ _ ?_
              clear hK K
              refine wpAny_done (by kernel_rfl) ?_ _
              refine ⟨rfl, ya, yc, ?_, hfin.out⟩
              exact rfl
      · go_simp
        refine hK _ _ ?_
        clear hK K
        refine wpAny_ready (rs := [4, 11]) (by kernel_rfl) (by simp) (AllReady.cons rfl (fun K hK => ?_) (AllReady.cons rfl (fun K hK => ?_) AllReady.nil))
        · go_simp
          refine hK _ _ ?_
          clear hK K
          refine wpAny_ready (rs := [5, 11]) (by kernel_rfl) (by simp) (AllReady.cons rfl (fun K hK => ?_) (AllReady.cons rfl (fun K hK => ?_) AllReady.nil))
          · go_simp
            refine (HCL.out _).mono ?_
            rintro e w13 ⟨rfl, hw13⟩
            rw [hw13]
            clear hw13
            refine hK _ _ ?_
            clear hK K
            refine wpAny_ready (rs := [11]) (by kernel_rfl) (by simp) (AllReady.cons rfl (fun K hK => ?_) AllReady.nil)
            go_simp
            refine hK _ _ ?_
            clear hK K
            refine wpAny_ready (rs := [12]) (by kernel_rfl) (by simp) (AllReady.cons rfl (fun K hK => ?_) AllReady.nil)
            go_simp
            refine hK _ _ ?_
            clear hK K
            refine wpAny_ready (rs := [13]) (by kernel_rfl) (by simp) (AllReady.cons rfl (fun K hK => ?_) AllReady.nil)
            refine wp_appV (.tmp 16) (.tmp 23) rfl xa b.l ⟨⟨i, s, k, q, p, o, d⟩, b.turn + 1, 0⟩ rfl HRV.out HNIL.out ⟨W1.heap.size, 0, none⟩ 1 rfl HNEW.out (by omega) (B + 1) HBS.out ?_
            intro v2 w14 hoa hba
            obtain ⟨ya, yc, rfl⟩ := own_slice hoa
            have hbz := HBD.out.step hba
            have cz0 := (hbz.cell (p := ⟨B, 0, none⟩) hBl1).trans HC0.out
            have fz0 := (hbz.frozen (p := ⟨B, 0, none⟩) hBl1).trans HF0.out
            have hfin := Lib.hid (write_fin HB1.out hbz hoa)
            clear hoa hba hbz
            refine hK _ _ ?_
            clear hK K
            refine wpAny_ready (rs := [14]) (by kernel_rfl) (by simp) (AllReady.cons rfl (fun K hK => ?_) AllReady.nil)
            go_simp
            refine hK _ _ ?_
            clear hK K
            refine wpAny_ready (rs := [15]) (by kernel_rfl) (by simp) (AllReady.cons rfl (fun K hK => ?_) AllReady.nil)
            go_simp
            refine hK _ _ ?_
            clear hK K
            refine wpAny_ready (rs := [16]) (by kernel_rfl) (by simp) (AllReady.cons rfl (fun K hK => ?_) AllReady.nil)
            go_simp
            refine hK _ _ ?_
            clear hK K
            refine wpAny_done (by kernel_rfl) ?_ _
            refine ⟨rfl, ya, yc, ?_, hfin.out⟩
            exact rfl
          · go_simp
            refine hK _ _ ?_
            clear hK K
            refine wpAny_ready (rs := [5, 12]) (by kernel_rfl) (by simp) (AllReady.cons rfl (fun K hK => ?_) (AllReady.cons rfl (fun K hK => ?_) AllReady.nil))
            · go_simp
              refine (HCL.out _).mono ?_
              rintro e w13 ⟨rfl, hw13⟩
              rw [hw13]
              clear hw13
              refine hK _ _ ?_
              clear hK K
              refine wpAny_ready (rs := [12]) (by kernel_rfl) (by simp) (AllReady.cons rfl (fun K hK => ?_) AllReady.nil)
              go_simp
              refine hK _ _ ?_
              clear hK K
              refine wpAny_ready (rs := [13]) (by kernel_rfl) (by simp) (AllReady.cons rfl (fun K hK => ?_) AllReady.nil)
              refine wp_appV (.tmp 16) (.tmp 23) rfl xa b.l ⟨⟨i, s, k, q, p, o, d⟩, b.turn + 1, 0⟩ rfl HRV.out HNIL.out ⟨W1.heap.size, 0, none⟩ 1 rfl HNEW.out (by omega) (B + 1) HBS.out ?_
              intro v2 w14 hoa hba
              obtain ⟨ya, yc, rfl⟩ := own_slice hoa
              have hbz := HBD.out.step hba
              have cz0 := (hbz.cell (p := ⟨B, 0, none⟩) hBl1).trans HC0.out
              have fz0 := (hbz.frozen (p := ⟨B, 0, none⟩) hBl1).trans HF0.out
              have hfin := Lib.hid (write_fin HB1.out hbz hoa)
              clear hoa hba hbz
              refine hK _ _ ?_
              clear hK K
              refine wpAny_ready (rs := [14]) (by kernel_rfl) (by simp) (AllReady.cons rfl (fun K hK => ?_) AllReady.nil)
              go_simp
              refine hK _ _ ?_
              clear hK K
              refine wpAny_ready (rs := [15]) (by kernel_rfl) (by simp) (AllReady.cons rfl (fun K hK => ?_) AllReady.nil)
              go_simp
              refine hK _ _ ?_
              clear hK K
              refine wpAny_ready (rs := [16]) (by kernel_rfl) (by simp) (AllReady.cons rfl (fun K hK => ?_) AllReady.nil)
              go_simp
              refine hK _ _ ?_
              clear hK K
              refine wpAny_done (by kernel_rfl) ?_ _
              refine ⟨rfl, ya, yc, ?_, hfin.out⟩
              exact rfl
            · go_simp
              refine hK _ _ ?_
              clear hK K
              refine wpAny_ready (rs := [5]) (by kernel_rfl) (by simp) (AllReady.cons rfl (fun K hK => ?_) AllReady.nil)
              go_simp
              refine (HCL.out _).mono ?_
              rintro e w13 ⟨rfl, hw13⟩
              rw [hw13]
              clear hw13
              refine hK _ _ ?_
              clear hK K
              refine wpAny_ready (rs := [13]) (by kernel_rfl) (by simp) (AllReady.cons rfl (fun K hK => ?_) AllReady.nil)
              refine wp_appV (.tmp 16) (.tmp 23) rfl xa b.l ⟨⟨i, s, k, q, p, o, d⟩, b.turn + 1, 0⟩ rfl HRV.out HNIL.out ⟨W1.heap.size, 0, none⟩ 1 rfl HNEW.out (by omega) (B + 1) HBS.out ?_
              intro v2 w14 hoa hba
              obtain ⟨ya, yc, rfl⟩ := own_slice hoa
              have hbz := HBD.out.step hba
              have cz0 := (hbz.cell (p := ⟨B, 0, none⟩) hBl1).trans HC0.out
              have fz0 := (hbz.frozen (p := ⟨B, 0, none⟩) hBl1).trans HF0.out
              have hfin := Lib.hid (write_fin HB1.out hbz hoa)
              clear hoa hba hbz
              refine hK _ _ ?_
              clear hK K
              refine wpAny_ready (rs := [14]) (by kernel_rfl) (by simp) (AllReady.cons rfl (fun K hK => ?_) AllReady.nil)
              go_simp
              refine hK _ _ ?_
              clear hK K
              refine wpAny_ready (rs := [15]) (by kernel_rfl) (by simp) (AllReady.cons rfl (fun K hK => ?_) AllReady.nil)
              go_simp
              refine hK _ _ ?_
              clear hK K
              refine wpAny_ready (rs := [16]) (by kernel_rfl) (by simp) (AllReady.cons rfl (fun K hK => ?_) AllReady.nil)
              go_simp
              refine hK _ _ ?_
              clear hK K
              refine wpAny_done (by kernel_rfl) ?_ _
              refine ⟨rfl, ya, yc, ?_, hfin.out⟩
              exact rfl
        · go_simp
          refine hK _ _ ?_
          clear hK K
          refine wpAny_ready (rs := [4, 12]) (by kernel_rfl) (by simp) (AllReady.cons rfl (fun K hK => ?_) (AllReady.cons rfl (fun K hK => ?_) AllReady.nil))
          · go_simp
            refine hK _ _ ?_
            clear hK K
            refine wpAny_ready (rs := [5, 12]) (by kernel_rfl) (by simp) (AllReady.cons rfl (fun K hK => ?_) (AllReady.cons rfl (fun K hK => ?_) AllReady.nil))
            · go_simp
              refine (HCL.out _).mono ?_
              rintro e w13 ⟨rfl, hw13⟩
              rw [hw13]
              clear hw13
              refine hK _ _ ?_
              clear hK K
              refine wpAny_ready (rs := [12]) (by kernel_rfl) (by simp) (AllReady.cons rfl (fun K hK => ?_) AllReady.nil)
              go_simp
              refine hK _ _ ?_
              clear hK K
              refine wpAny_ready (rs := [13]) (by kernel_rfl) (by simp) (AllReady.cons rfl (fun K hK => ?_) AllReady.nil)
              refine wp_appV (.tmp 16) (.tmp 23) rfl xa b.l ⟨⟨i, s, k, q, p, o, d⟩, b.turn + 1, 0⟩ rfl HRV.out HNIL.out ⟨W1.heap.size, 0, none⟩ 1 rfl HNEW.out (by omega) (B + 1) HBS.out ?_
              intro v2 w14 hoa hba
              obtain ⟨ya, yc, rfl⟩ := own_slice hoa
              have hbz := HBD.out.step hba
              have cz0 := (hbz.cell (p := ⟨B, 0, none⟩) hBl1).trans HC0.out
              have fz0 := (hbz.frozen (p := ⟨B, 0, none⟩) hBl1).trans HF0.out
              have hfin := Lib.hid (write_fin HB1.out hbz hoa)
              clear hoa hba hbz
              refine hK _ _ ?_
              clear hK K
              refine wpAny_ready (rs := [14]) (by kernel_rfl) (by simp) (AllReady.cons rfl (fun K hK => ?_) AllReady.nil)
              go_simp
              refine hK _ _ ?_
              clear hK K
              refine wpAny_ready (rs := [15]) (by kernel_rfl) (by simp) (AllReady.cons rfl (fun K hK => ?_) AllReady.nil)
              go_simp
              refine hK _ _ ?_
              clear hK K
              refine wpAny_ready (rs := [16]) (by kernel_rfl) (by simp) (AllReady.cons rfl (fun K hK => ?_) AllReady.nil)
              go_simp
              refine hK _ _ ?_
              clear hK K
              refine wpAny_done (by kernel_rfl) ?_ _
              refine ⟨rfl, ya, yc, ?_, hfin.out⟩
              exact rfl
            · go_simp
              refine hK _ _ ?_
              clear hK K
              refine wpAny_ready (rs := [5]) (by kernel_rfl) (by simp) (AllReady.cons rfl (fun K hK => ?_) AllReady.nil)
              go_simp
              refine (HCL.out _).mono ?_
              rintro e w13 ⟨rfl, hw13⟩
              rw [hw13]
              clear hw13
              refine hK _ _ ?_
              clear hK K
              refine wpAny_ready (rs := [13]) (by kernel_rfl) (by simp) (AllReady.cons rfl (fun K hK => ?_) AllReady.nil)
              refine wp_appV (.tmp 16) (.tmp 23) rfl xa b.l ⟨⟨i, s, k, q, p, o, d⟩, b.turn + 1, 0⟩ rfl HRV.out HNIL.out ⟨W1.heap.size, 0, none⟩ 1 rfl HNEW.out (by omega) (B + 1) HBS.out ?_
              intro v2 w14 hoa hba
              obtain ⟨ya, yc, rfl⟩ := own_slice hoa
              have hbz := HBD.out.step hba
              have cz0 := (hbz.cell (p := ⟨B, 0, none⟩) hBl1).trans HC0.out
              have fz0 := (hbz.frozen (p := ⟨B, 0, none⟩) hBl1).trans HF0.out
              have hfin := Lib.hid (write_fin HB1.out hbz hoa)
              clear hoa hba hbz
              refine hK _ _ ?_
              clear hK K
              refine wpAny_ready (rs := [14]) (by kernel_rfl) (by simp) (AllReady.cons rfl (fun K hK => ?_) AllReady.nil)
              go_simp
              refine hK _ _ ?_
              clear hK K
              refine wpAny_ready (rs := [15]) (by kernel_rfl) (by simp) (AllReady.cons rfl (fun K hK => ?_) AllReady.nil)
              go_simp
              refine hK _ _ ?_
              clear hK K
              refine wpAny_ready (rs := [16]) (by kernel_rfl) (by simp) (AllReady.cons rfl (fun K hK => ?_) AllReady.nil)
              go_simp
              refine hK _ _ ?_
              clear hK K
              refine wpAny_done (by kernel_rfl) ?_ _
              refine ⟨rfl, ya, yc, ?_, hfin.out⟩
              exact rfl
          · go_simp
            refine hK _ _ ?_
            clear hK K
            refine wpAny_ready (rs := [4]) (by kernel_rfl) (by simp) (AllReady.cons rfl (fun K hK => ?_) AllReady.nil)
            go_simp
            refine hK _ _ ?_
            clear hK K
            refine wpAny_ready (rs := [5]) (by kernel_rfl) (by simp) (AllReady.cons rfl (fun K hK => ?_) AllReady.nil)
            go_simp
            refine (HCL.out _).mono ?_
            rintro e w13 ⟨rfl, hw13⟩
            rw [hw13]
            clear hw13
            refine hK _ _ ?_
            clear hK K
            refine wpAny_ready (rs := [13]) (by kernel_rfl) (by simp) (AllReady.cons rfl (fun K hK => ?_) AllReady.nil)
            refine wp_appV (.tmp 16) (.tmp 23) rfl xa b.l ⟨⟨i, s, k, q, p, o, d⟩, b.turn + 1, 0⟩ rfl HRV.out HNIL.out ⟨W1.heap.size, 0, none⟩ 1 rfl HNEW.out (by omega) (B + 1) HBS.out ?_
            intro v2 w14 hoa hba
            obtain ⟨ya, yc, rfl⟩ := own_slice hoa
            have hbz := HBD.out.step hba
            have cz0 := (hbz.cell (p := ⟨B, 0, none⟩) hBl1).trans HC0.out
            have fz0 := (hbz.frozen (p := ⟨B, 0, none⟩) hBl1).trans HF0.out
            have hfin := Lib.hid (write_fin HB1.out hbz hoa)
            clear hoa hba hbz
            refine hK _ _ ?_
            clear hK K
            refine wpAny_ready (rs := [14]) (by kernel_rfl) (by simp) (AllReady.cons rfl (fun K hK => ?_) AllReady.nil)
            go_simp
            refine hK _ _ ?_
            clear hK K
            refine wpAny_ready (rs := [15]) (by kernel_rfl) (by simp) (AllReady.cons rfl (fun K hK => ?_) AllReady.nil)
            go_simp
            refine hK _ _ ?_
            clear hK K
            refine wpAny_ready (rs := [16]) (by kernel_rfl) (by simp) (AllReady.cons rfl (fun K hK => ?_) AllReady.nil)
            go_simp
            refine hK _ _ ?_
            clear hK K
            refine wpAny_done (by kernel_rfl) ?_ _
            refine ⟨rfl, ya, yc, ?_, hfin.out⟩
            exact rfl
    · go_simp
      refine hK _ _ ?_
      clear hK K
      refine wpAny_ready (rs := [4, 6]) (by kernel_rfl) (by simp) (AllReady.cons rfl (fun K hK => ?_) (AllReady.cons rfl (fun K hK => ?_) AllReady.nil))
      · go_simp
        refine hK _ _ ?_
        clear hK K
        refine wpAny_ready (rs := [5, 6]) (by kernel_rfl) (by simp) (AllReady.cons rfl (fun K hK => ?_) (AllReady.cons rfl (fun K hK => ?_) AllReady.nil))
        · go_simp
          refine (HCL.out _).mono ?_
          rintro e w13 ⟨rfl, hw13⟩
          rw [hw13]
          clear hw13
          refine hK _ _ ?_
          clear hK K
          refine wpAny_ready (rs := [6]) (by kernel_rfl) (by simp) (AllReady.cons rfl (fun K hK => ?_) AllReady.nil)
          go_simp
          refine hK _ _ ?_
          clear hK K
          refine wpAny_ready (rs := [11]) (by kernel_rfl) (by simp) (AllReady.cons rfl (fun K hK => ?_) AllReady.nil)
          go_simp
          refine hK _ _ ?_
          clear hK K
          refine wpAny_ready (rs := [12]) (by kernel_rfl) (by simp) (AllReady.cons rfl (fun K hK => ?_) AllReady.nil)
          go_simp
          refine hK _ _ ?_
          clear hK K
          refine wpAny_ready (rs := [13]) (by kernel_rfl) (by simp) (AllReady.cons rfl (fun K hK => ?_) AllReady.nil)
          refine wp_appV (.tmp 16) (.tmp 23) rfl xa b.l ⟨⟨i, s, k, q, p, o, d⟩, b.turn + 1, 0⟩ rfl HRV.out HNIL.out ⟨W1.heap.size, 0, none⟩ 1 rfl HNEW.out (by omega) (B + 1) HBS.out ?_
          intro v2 w14 hoa hba
          obtain ⟨ya, yc, rfl⟩ := own_slice hoa
          have hbz := HBD.out.step hba
          have cz0 := (hbz.cell (p := ⟨B, 0, none⟩) hBl1).trans HC0.out
          have fz0 := (hbz.frozen (p := ⟨B, 0, none⟩) hBl1).trans HF0.out
          have hfin := Lib.hid (write_fin HB1.out hbz hoa)
          clear hoa hba hbz
          refine hK _ _ ?_
          clear hK K
          refine wpAny_ready (rs := [14]) (by kernel_rfl) (by simp) (AllReady.cons rfl (fun K hK => ?_) AllReady.nil)
          go_simp
          refine hK _ _ ?_
          clear hK K
          refine wpAny_ready (rs := [15]) (by kernel_rfl) (by simp) (AllReady.cons rfl (fun K hK => ?_) AllReady.nil)
          go_simp
          refine hK _ _ ?_
          clear hK K
          refine wpAny_ready (rs := [16]) (by kernel_rfl) (by simp) (AllReady.cons rfl (fun K hK => ?_) AllReady.nil)
          go_simp
          refine hK _ _ ?_
          clear hK K
          refine wpAny_done (by kernel_rfl) ?_ _
          refine ⟨rfl, ya, yc, ?_, hfin.out⟩
          exact rfl
        · go_simp
          refine hK _ _ ?_
          clear hK K
          refine wpAny_ready (rs := [5, 11]) (by kernel_rfl) (by simp) (AllReady.cons rfl (fun K hK => ?_) (AllReady.cons rfl (fun K hK => ?_) AllReady.nil))
          · go_simp
            refine (HCL.out _).mono ?_
            rintro e w13 ⟨rfl, hw13⟩
            rw [hw13]
            clear hw13
            refine hK _ _ ?_
            clear hK K
            refine wpAny_ready (rs := [11]) (by kernel_rfl) (by simp) (AllReady.cons rfl (fun K hK => ?_) AllReady.nil)
            go_simp
            refine hK _ _ ?_
            clear hK K
            refine wpAny_ready (rs := [12]) (by kernel_rfl) (by simp) (AllReady.cons rfl (fun K hK => ?_) AllReady.nil)
            go_simp
            refine hK _ _ ?_
            clear hK K
            refine wpAny_ready (rs := [13]) (by kernel_rfl) (by simp) (AllReady.cons rfl (fun K hK => ?_) AllReady.nil)
            refine wp_appV (.tmp 16) (.tmp 23) rfl xa b.l ⟨⟨i, s, k, q, p, o, d⟩, b.turn + 1, 0⟩ rfl HRV.out HNIL.out ⟨W1.heap.size, 0, none⟩ 1 rfl HNEW.out (by omega) (B + 1) HBS.out ?_
            intro v2 w14 hoa hba
            obtain ⟨ya, yc, rfl⟩ := own_slice hoa
            have hbz := HBD.out.step hba
            have cz0 := (hbz.cell (p := ⟨B, 0, none⟩) hBl1).trans HC0.out
            have fz0 := (hbz.frozen (p := ⟨B, 0, none⟩) hBl1).trans HF0.out
            have hfin := Lib.hid (write_fin HB1.out hbz hoa)
            clear hoa hba hbz
            refine hK _ _ ?_
            clear hK K
            refine wpAny_ready (rs := [14]) (by kernel_rfl) (by simp) (AllReady.cons rfl (fun K hK => ?_) AllReady.nil)
            go_simp
            refine hK _ _ ?_
            clear hK K
            refine wpAny_ready (rs := [15]) (by kernel_rfl) (by simp) (AllReady.cons rfl (fun K hK => ?_) AllReady.nil)
            go_simp
            refine hK _ _ ?_
            clear hK K
            refine wpAny_ready (rs := [16]) (by kernel_rfl) (by simp) (AllReady.cons rfl (fun K hK => ?_) AllReady.nil)
            go_simp
            refine hK _ _ ?_
            clear hK K
            refine wpAny_done (by kernel_rfl) ?_ _
            refine ⟨rfl, ya, yc, ?_, hfin.out⟩
            exact rfl
          · go_simp
            refine hK _ _ ?_
            clear hK K
            refine wpAny_ready (rs := [5, 12]) (by kernel_rfl) (by simp) (AllReady.cons rfl (fun K hK => ?_) (AllReady.cons rfl (fun K hK => ?_) AllReady.nil))
            · go_simp
              refine (HCL.out _).mono ?_
              rintro e w13 ⟨rfl, hw13⟩
              rw [hw13]
              clear hw13
              refine hK _ _ ?_
              clear hK K
              refine wpAny_ready (rs := [12]) (by kernel_rfl) (by simp) (AllReady.cons rfl (fun K hK => ?_) AllReady.nil)
              go_simp
              refine hK _ _ ?_
              clear hK K
              refine wpAny_ready (rs := [13]) (by kernel_rfl) (by simp) (AllReady.cons rfl (fun K hK => ?_) AllReady.nil)
              refine wp_appV (.tmp 16) (.tmp 23) rfl xa b.l ⟨⟨i, s, k, q, p, o, d⟩, b.turn + 1, 0⟩ rfl HRV.out HNIL.out ⟨W1.heap.size, 0, none⟩ 1 rfl HNEW.out (by omega) (B + 1) HBS.out ?_
              intro v2 w14 hoa hba
              obtain ⟨ya, yc, rfl⟩ := own_slice hoa
              have hbz := HBD.out.step hba
              have cz0 := (hbz.cell (p := ⟨B, 0, none⟩) hBl1).trans HC0.out
              have fz0 := (hbz.frozen (p := ⟨B, 0, none⟩) hBl1).trans HF0.out
              have hfin := Lib.hid (write_fin HB1.out hbz hoa)
              clear hoa hba hbz
              refine hK _ _ ?_
              clear hK K
              refine wpAny_ready (rs := [14]) (by kernel_rfl) (by simp) (AllReady.cons rfl (fun K hK => ?_) AllReady.nil)
              go_simp
              refine hK _ _ ?_
              clear hK K
              refine wpAny_ready (rs := [15]) (by kernel_rfl) (by simp) (AllReady.cons rfl (fun K hK => ?_) AllReady.nil)
              go_simp
              refine hK _ _ ?_
              clear hK K
              refine wpAny_ready (rs := [16]) (by kernel_rfl) (by simp) (AllReady.cons rfl (fun K hK => ?_) AllReady.nil)
              go_simp
              refine hK _ _ ?_
              clear hK K
              refine wpAny_done (by kernel_rfl) ?_ _
              refine ⟨rfl, ya, yc, ?_, hfin.out⟩
              exact rfl
            · go_simp
              refine hK _ _ ?_
              clear hK K
              refine wpAny_ready (rs := [5]) (by kernel_rfl) (by simp) (AllReady.cons rfl (fun K hK => ?_) AllReady.nil)
              go_simp
              refine (HCL.out _).mono ?_
              rintro e w13 ⟨rfl, hw13⟩
              rw [hw13]
              clear hw13
              refine hK _ _ ?_
              clear hK K
              refine wpAny_ready (rs := [13]) (by kernel_rfl) (by simp) (AllReady.cons rfl (fun K hK => ?_) AllReady.nil)
              refine wp_appV (.tmp 16) (.tmp 23) rfl xa b.l ⟨⟨i, s, k, q, p, o, d⟩, b.turn + 1, 0⟩ rfl HRV.out HNIL.out ⟨W1.heap.size, 0, none⟩ 1 rfl HNEW.out (by omega) (B + 1) HBS.out ?_
              intro v2 w14 hoa hba
              obtain ⟨ya, yc, rfl⟩ := own_slice hoa
              have hbz := HBD.out.step hba
              have cz0 := (hbz.cell (p := ⟨B, 0, none⟩) hBl1).trans HC0.out
              have fz0 := (hbz.frozen (p := ⟨B, 0, none⟩) hBl1).trans HF0.out
              have hfin := Lib.hid (write_fin HB1.out hbz hoa)
              clear hoa hba hbz
              refine hK _ _ ?_
              clear hK K
              refine wpAny_ready (rs := [14]) (by kernel_rfl) (by simp) (AllReady.cons rfl (fun K hK => ?_) AllReady.nil)
              go_simp
              refine hK _ _ ?_
              clear hK K
              refine wpAny_ready (rs := [15]) (by kernel_rfl) (by simp) (AllReady.cons rfl (fun K hK => ?_) AllReady.nil)
              go_simp
              refine hK _ _ ?_
              clear hK K
              refine wpAny_ready (rs := [16]) (by kernel_rfl) (by simp) (AllReady.cons rfl (fun K hK => ?_) AllReady.nil)
              go_simp
              refine hK _ _ ?_
              clear hK K
              refine wpAny_done (by kernel_rfl) ?_ _
              refine ⟨rfl, ya, yc, ?_, hfin.out⟩
              exact rfl
      · go_simp
        refine hK _ _ ?_
        clear hK K
        refine wpAny_ready (rs := [4, 11]) (by kernel_rfl) (by simp) (AllReady.cons rfl (fun K hK => ?_) (AllReady.cons rfl (fun K hK => ?_) AllReady.nil))
        · go_simp
          refine hK _ _ ?_
          clear hK K
          refine wpAny_ready (rs := [5, 11]) (by kernel_rfl) (by simp) (AllReady.cons rfl (fun K hK => ?_) (AllReady.cons rfl (fun K hK => ?_) AllReady.nil))
          · go_simp
            refine (HCL.out _).mono ?_
            rintro e w13 ⟨rfl, hw13⟩
            rw [hw13]
            clear hw13
            refine hK _ _ ?_
            clear hK K
            refine wpAny_ready (rs := [11]) (by kernel_rfl) (by simp) (AllReady.cons rfl (fun K hK => ?_) AllReady.nil)
            go_simp
            refine hK _ _ ?_
            clear hK K
            refine wpAny_ready (rs := [12]) (by kernel_rfl) (by simp) (AllReady.cons rfl (fun K hK => ?_) AllReady.nil)
            go_simp
            refine hK _ _ ?_
            clear hK K
            refine wpAny_ready (rs := [13]) (by kernel_rfl) (by simp) (AllReady.cons rfl (fun K hK => ?_) AllReady.nil)
            refine wp_appV (.tmp 16) (.tmp 23) rfl xa b.l ⟨⟨i, s, k, q, p, o, d⟩, b.turn + 1, 0⟩ rfl HRV.out HNIL.out ⟨W1.heap.size, 0, none⟩ 1 rfl HNEW.out (by omega) (B + 1) HBS.out ?_
            intro v2 w14 hoa hba
            obtain ⟨ya, yc, rfl⟩ := own_slice hoa
            have hbz := HBD.out.step hba
            have cz0 := (hbz.cell (p := ⟨B, 0, none⟩) hBl1).trans HC0.out
            have fz0 := (hbz.frozen (p := ⟨B, 0, none⟩) hBl1).trans HF0.out
            have hfin := Lib.hid (write_fin HB1.out hbz hoa)
            clear hoa hba hbz
            refine hK _ _ ?_
            clear hK K
            refine wpAny_ready (rs := [14]) (by kernel_rfl) (by simp) (AllReady.cons rfl (fun K hK => ?_) AllReady.nil)
            go_simp
            refine hK _ _ ?_
            clear hK K
            refine wpAny_ready (rs := [15]) (by kernel_rfl) (by simp) (AllReady.cons rfl (fun K hK => ?_) AllReady.nil)
            go_simp
            refine hK _ _ ?_
            clear hK K
            refine wpAny_ready (rs := [16]) (by kernel_rfl) (by simp) (AllReady.cons rfl (fun K hK => ?_) AllReady.nil)
            go_simp
            refine hK _ _ ?_
            clear hK K
            refine wpAny_done (by kernel_rfl) ?_ _
            refine ⟨rfl, ya, yc, ?_, hfin.out⟩
            exact rfl
          · go_simp
            refine hK _ _ ?_
            clear hK K
            refine wpAny_ready (rs := [5, 12]) (by kernel_rfl) (by simp) (AllReady.cons rfl (fun K hK => ?_) (AllReady.cons rfl (fun K hK => ?_) AllReady.nil))
            · go_simp
              refine (HCL.out _).mono ?_
              rintro e w13 ⟨rfl, hw13⟩
              rw [hw13]
              clear hw13
              refine hK _ _ ?_
              clear hK K
              refine wpAny_ready (rs := [12]) (by kernel_rfl) (by simp) (AllReady.cons rfl (fun K hK => ?_) AllReady.nil)
              go_simp
              refine hK _ _ ?_
              clear hK K
              refine wpAny_ready (rs := [13]) (by kernel_rfl) (by simp) (AllReady.cons rfl (fun K hK => ?_) AllReady.nil)
              refine wp_appV (.tmp 16) (.tmp 23) rfl xa b.l ⟨⟨i, s, k, q, p, o, d⟩, b.turn + 1, 0⟩ rfl HRV.out HNIL.out ⟨W1.heap.size, 0, none⟩ 1 rfl HNEW.out (by omega) (B + 1) HBS.out ?_
              intro v2 w14 hoa hba
              obtain ⟨ya, yc, rfl⟩ := own_slice hoa
              have hbz := HBD.out.step hba
              have cz0 := (hbz.cell (p := ⟨B, 0, none⟩) hBl1).trans HC0.out
              have fz0 := (hbz.frozen (p := ⟨B, 0, none⟩) hBl1).trans HF0.out
              have hfin := Lib.hid (write_fin HB1.out hbz hoa)
              clear hoa hba hbz
              refine hK _ _ ?_
              clear hK K
              refine wpAny_ready (rs := [14]) (by kernel_rfl) (by simp) (AllReady.cons rfl (fun K hK => ?_) AllReady.nil)
              go_simp
              refine hK _ _ ?_
              clear hK K
              refine wpAny_ready (rs := [15]) (by kernel_rfl) (by simp) (AllReady.cons rfl (fun K hK => ?_) AllReady.nil)
              go_simp
              refine hK _ _ ?_
              clear hK K
              refine wpAny_ready (rs := [16]) (by kernel_rfl) (by simp) (AllReady.cons rfl (fun K hK => ?_) AllReady.nil)
              go_simp
              refine hK _ _ ?_
              clear hK K
              refine wpAny_done (by kernel_rfl) ?_ _
              refine ⟨rfl, ya, yc, ?_, hfin.out⟩
              exact rfl
            · go_simp
              refine hK _ _ ?_
              clear hK K
              refine wpAny_ready (rs := [5]) (by kernel_rfl) (by simp) (AllReady.cons rfl (fun K hK => ?_) AllReady.nil)
              go_simp
              refine (HCL.out _).mono ?_
              rintro e w13 ⟨rfl, hw13⟩
              rw [hw13]
              clear hw13
              refine hK _ _ ?_
              clear hK K
              refine wpAny_ready (rs := [13]) (by kernel_rfl) (by simp) (AllReady.cons rfl (fun K hK => ?_) AllReady.nil)
              refine wp_appV (.tmp 16) (.tmp 23) rfl xa b.l ⟨⟨i, s, k, q, p, o, d⟩, b.turn + 1, 0⟩ rfl HRV.out HNIL.out ⟨W1.heap.size, 0, none⟩ 1 rfl HNEW.out (by omega) (B + 1) HBS.out ?_
              intro v2 w14 hoa hba
              obtain ⟨ya, yc, rfl⟩ := own_slice hoa
              have hbz := HBD.out.step hba
              have cz0 := (hbz.cell (p := ⟨B, 0, none⟩) hBl1).trans HC0.out
              have fz0 := (hbz.frozen (p := ⟨B, 0, none⟩) hBl1).trans HF0.out
              have hfin := Lib.hid (write_fin HB1.out hbz hoa)
              clear hoa hba hbz
              refine hK _ _ ?_
              clear hK K
              refine wpAny_ready (rs := [14]) (by kernel_rfl) (by simp) (AllReady.cons rfl (fun K hK => ?_) AllReady.nil)
              go_simp
              refine hK _ _ ?_
              clear hK K
              refine wpAny_ready (rs := [15]) (by kernel_rfl) (by simp) (AllReady.cons rfl (fun K hK => ?_) AllReady.nil)
              go_simp
              refine hK _ _ ?_
              clear hK K
              refine wpAny_ready (rs := [16]) (by kernel_rfl) (by simp) (AllReady.cons rfl (fun K hK => ?_) AllReady.nil)
              go_simp
              refine hK _ _ ?_
              clear hK K
              refine wpAny_done (by kernel_rfl) ?_ _
              refine ⟨rfl, ya, yc, ?_, hfin.out⟩
              exact rfl
        · go_simp
          refine hK _ _ ?_
          clear hK K
          refine wpAny_ready (rs := [4, 12]) (by kernel_rfl) (by simp) (AllReady.cons rfl (fun K hK => ?_) (AllReady.cons rfl (fun K hK => ?_) AllReady.nil))
          · go_simp
            refine hK _ _ ?_
            clear hK K
            refine wpAny_ready (rs := [5, 12]) (by kernel_rfl) (by simp) (AllReady.cons rfl (fun K hK => ?_) (AllReady.cons rfl (fun K hK => ?_) AllReady.nil))
            · go_simp
              refine (HCL.out _).mono ?_
              rintro e w13 ⟨rfl, hw13⟩
              rw [hw13]
              clear hw13
              refine hK _ _ ?_
              clear hK K
              refine wpAny_ready (rs := [12]) (by kernel_rfl) (by simp) (AllReady.cons rfl (fun K hK => ?_) AllReady.nil)
              go_simp
              refine hK _ _ ?_
              clear hK K
              refine wpAny_ready (rs := [13]) (by kernel_rfl) (by simp) (AllReady.cons rfl (fun K hK => ?_) AllReady.nil)
              refine wp_appV (.tmp 16) (.tmp 23) rfl xa b.l ⟨⟨i, s, k, q, p, o, d⟩, b.turn + 1, 0⟩ rfl HRV.out HNIL.out ⟨W1.heap.size, 0, none⟩ 1 rfl HNEW.out (by omega) (B + 1) HBS.out ?_
              intro v2 w14 hoa hba
              obtain ⟨ya, yc, rfl⟩ := own_slice hoa
              have hbz := HBD.out.step hba
              have cz0 := (hbz.cell (p := ⟨B, 0, none⟩) hBl1).trans HC0.out
              have fz0 := (hbz.frozen (p := ⟨B, 0, none⟩) hBl1).trans HF0.out
              have hfin := Lib.hid (write_fin HB1.out hbz hoa)
              clear hoa hba hbz
              refine hK _ _ ?_
              clear hK K
              refine wpAny_ready (rs := [14]) (by kernel_rfl) (by simp) (AllReady.cons rfl (fun K hK => ?_) AllReady.nil)
              go_simp
              refine hK _ _ ?_
              clear hK K
              refine wpAny_ready (rs := [15]) (by kernel_rfl) (by simp) (AllReady.cons rfl (fun K hK => ?_) AllReady.nil)
              go_simp
              refine hK _ _ ?_
              clear hK K
              refine wpAny_ready (rs := [16]) (by kernel_rfl) (by simp) (AllReady.cons rfl (fun K hK => ?_) AllReady.nil)
              go_simp
              refine hK _ _ ?_
              clear hK K
              refine wpAny_done (by kernel_rfl) ?_ _
              refine ⟨rfl, ya, yc, ?_, hfin.out⟩
              exact rfl
            · go_simp
              refine hK _ _ ?_
              clear hK K
              refine wpAny_ready (rs := [5]) (by kernel_rfl) (by simp) (AllReady.cons rfl (fun K hK => ?_) AllReady.nil)
              go_simp
              refine (HCL.out _).mono ?_
              rintro e w13 ⟨rfl, hw13⟩
              rw [hw13]
              clear hw13
              refine hK _ _ ?_
              clear hK K
              refine wpAny_ready (rs := [13]) (by kernel_rfl) (by simp) (AllReady.cons rfl (fun K hK => ?_) AllReady.nil)
              refine wp_appV (.tmp 16) (.tmp 23) rfl xa b.l ⟨⟨i, s, k, q, p, o, d⟩, b.turn + 1, 0⟩ rfl HRV.out HNIL.out ⟨W1.heap.size, 0, none⟩ 1 rfl HNEW.out (by omega) (B + 1) HBS.out ?_
              intro v2 w14 hoa hba
              obtain ⟨ya, yc, rfl⟩ := own_slice hoa
              have hbz := HBD.out.step hba
              have cz0 := (hbz.cell (p := ⟨B, 0, none⟩) hBl1).trans HC0.out
              have fz0 := (hbz.frozen (p := ⟨B, 0, none⟩) hBl1).trans HF0.out
              have hfin := Lib.hid (write_fin HB1.out hbz hoa)
              clear hoa hba hbz
              refine hK _ _ ?_
              clear hK K
              refine wpAny_ready (rs := [14]) (by kernel_rfl) (by simp) (AllReady.cons rfl (fun K hK => ?_) AllReady.nil)
              go_simp
              refine hK _ _ ?_
              clear hK K
              refine wpAny_ready (rs := [15]) (by kernel_rfl) (by simp) (AllReady.cons rfl (fun K hK => ?_) AllReady.nil)
              go_simp
              refine hK _ _ ?_
              clear hK K
              refine wpAny_ready (rs := [16]) (by kernel_rfl) (by simp) (AllReady.cons rfl (fun K hK => ?_) AllReady.nil)
              go_simp
              refine hK _ _ ?_
              clear hK K
              refine wpAny_done (by kernel_rfl) ?_ _
              refine ⟨rfl, ya, yc, ?_, hfin.out⟩
              exact rfl
          · go_simp
            refine hK _ _ ?_
            clear hK K
            refine wpAny_ready (rs := [4]) (by kernel_rfl) (by simp) (AllReady.cons rfl (fun K hK => ?_) AllReady.nil)
            go_simp
            refine hK _ _ ?_
            clear hK K
            refine wpAny_ready (rs := [5]) (by kernel_rfl) (by simp) (AllReady.cons rfl (fun K hK => ?_) AllReady.nil)
            go_simp
            refine (HCL.out _).mono ?_
            rintro e w13 ⟨rfl, hw13⟩
            rw [hw13]
            clear hw13
            refine hK _ _ ?_
            clear hK K
            refine wpAny_ready (rs := [13]) (by kernel_rfl) (by simp) (AllReady.cons rfl (fun K hK => ?_) AllReady.nil)
            refine wp_appV (.tmp 16) (.tmp 23) rfl xa b.l ⟨⟨i, s, k, q, p, o, d⟩, b.turn + 1, 0⟩ rfl HRV.out HNIL.out ⟨W1.heap.size, 0, none⟩ 1 rfl HNEW.out (by omega) (B + 1) HBS.out ?_
            intro v2 w14 hoa hba
            obtain ⟨ya, yc, rfl⟩ := own_slice hoa
            have hbz := HBD.out.step hba
            have cz0 := (hbz.cell (p := ⟨B, 0, none⟩) hBl1).trans HC0.out
            have fz0 := (hbz.frozen (p := ⟨B, 0, none⟩) hBl1).trans HF0.out
            have hfin := Lib.hid (write_fin HB1.out hbz hoa)
            clear hoa hba hbz
            refine hK _ _ ?_
            clear hK K
            refine wpAny_ready (rs := [14]) (by kernel_rfl) (by simp) (AllReady.cons rfl (fun K hK => ?_) AllReady.nil)
            go_simp
            refine hK _ _ ?_
            clear hK K
            refine wpAny_ready (rs := [15]) (by kernel_rfl) (by simp) (AllReady.cons rfl (fun K hK => ?_) AllReady.nil)
            go_simp
            refine hK _ _ ?_
            clear hK K
            refine wpAny_ready (rs := [16]) (by kernel_rfl) (by simp) (AllReady.cons rfl (fun K hK => ?_) AllReady.nil)
            go_simp
            refine hK _ _ ?_
            clear hK K
            refine wpAny_done (by kernel_rfl) ?_ _
            refine ⟨rfl, ya, yc, ?_, hfin.out⟩
            exact rfl
  rintro ya yc w' ⟨hbk, hch⟩
  go_wp2_with fail
  go_end0
  exact ⟨rfl, hbk, HCH.out.trans hch⟩
end Go.Proofs.YtackpcohmmlkeaaGreatDoor
