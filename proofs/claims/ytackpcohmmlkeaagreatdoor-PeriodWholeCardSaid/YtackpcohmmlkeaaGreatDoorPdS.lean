/- A concrete run of closes, as the laws ask it first. -/
import Derived.Test.YtackpcohmmlkeaaGreatDoorPdD
import Derived.Test.YtackpcohmmlkeaaGreatDoorBkV
import Derived.Test.YtackpcohmmlkeaaGreatDoorBkN
import Derived.Test.YtackpcohmmlkeaaGreatDoorTl
namespace Go.Proofs.YtackpcohmmlkeaaGreatDoor
open Go.RowKit
set_option linter.unusedVariables false
set_option linter.unusedSimpArgs false

abbrev sS : ByteArray := ⟨#[97]⟩
abbrev eS : Evt := ⟨0, sS, 1, 2, 10, 0, 3⟩
abbrev bS : Bk := (bk0.post eS).1
abbrev fS : Fg := ⟨20, 0, 0, 0, 0⟩
theorem sS_post : (bk0.post eS).2 = (1, none) := by decide
theorem sS_turn : bS.turn = 1 := by decide
theorem sS_as : bS.as (-1) = [⟨1, sS, 1, 2, 10, 0, 3⟩] := by rfl
theorem sS_run : (runP stk0 [⟨1, sS, 1, 2, 10, 0, 3⟩]).1 = [⟨1, 20, 0, 0, false⟩] := by rfl
theorem mo3 : Dy.moN 3 = 0 := by
  rw [Dy.moN_is (n := 3) (y := 1900) (m := 1) (d := 4) (by unfold Dy.Is Dy.Ok; decide)]
  decide
theorem mo30 : Dy.moN 30 = 0 := by
  rw [Dy.moN_is (n := 30) (y := 1900) (m := 1) (d := 31) (by unfold Dy.Is Dy.Ok; decide)]
  decide
theorem mo31 : Dy.moN 31 = 1 := by
  rw [Dy.moN_is (n := 31) (y := 1900) (m := 2) (d := 1) (by unfold Dy.Is Dy.Ok; decide)]
  decide
theorem sS_mon : monE (bS.as (-1)) = [(0, fS)] := by
  rw [sS_as]
  unfold monE
  rw [show Stb.isort leE [(⟨1, sS, 1, 2, 10, 0, 3⟩ : Evt)] = [⟨1, sS, 1, 2, 10, 0, 3⟩] from rfl, sS_run]
  show monS [] ⟨1, sS, 1, 2, 10, 0, 3⟩ ⟨1, 20, 0, 0, false⟩ = _
  unfold monS
  simp only [List.getLast?_nil, mo3]
  rfl
theorem sS_all (m : Int) (h : 0 ≤ m) : allF (bS.as (-1)) m = fS := by
  unfold allF
  rw [sS_mon]
  simp only [untilF, List.foldl_cons, List.foldl_nil]
  rw [if_pos h]
  rfl
abbrev pS : Pd := ⟨[⟨0, 1, fS⟩], fS⟩
theorem sS_close : pd0.close bS 0 = (pS, fS, none) := by
  unfold Pd.close
  rw [if_neg (by omega), if_neg (by decide), if_neg (by decide), sS_all 0 (by omega), sS_turn]
  rfl
theorem sS_last : pS.last = 0 := rfl
theorem sS_again : pS.close bS 0 = (pS, fg0, some 10) := by
  unfold Pd.close
  rw [if_neg (by omega), if_pos (by decide)]
theorem sS_opn : pS.opn bS = fg0 := by
  unfold Pd.opn
  rw [sS_all 3300 (by omega)]
  rfl
theorem iS : BkI bS := bkI0.post _
theorem jS : PdI bS pS := by
  have h := (pdI0 bS).close iS 0
  rwa [sS_close] at h
abbrev pdOb : Obj := .cells #[.slice none 0 0, .int .i64 0, .int .i64 0, .int .i64 0, .int .i64 0, .int .i64 0] 43
theorem pdW_new (w : World) : PW (w.alloc pdOb) w.heap.size 0 pd0 := by
  have hn := World.alloc_heap_new w pdOb
  refine ⟨?_, fun j => by simp only [World.frozen?, hn]; simp, ⟨.slice none 0 0, by simp only [World.cell?, hn]; rfl, World.ownsRow_nil _ _ _ _⟩, ⟨_, _, _, hn, by decide⟩⟩
  intro j u hu
  have hj : j < 5 := (List.getElem?_eq_some_iff.1 hu).1
  simp only [World.cell?, hn]
  have : j = 0 ∨ j = 1 ∨ j = 2 ∨ j = 3 ∨ j = 4 := by omega
  rcases this with rfl | rfl | rfl | rfl | rfl <;> exact hu
set_option maxHeartbeats 4000000 in
set_option maxRecDepth 100000 in
theorem shut_any (w : World) (hw : EW w) (hd : DW w) : Calls Tryz.prog 8 #[] w (Gives (.bool true) w) := by
  obtain ⟨W1, hW1⟩ : ∃ W1, W1 = (w.alloc bookOb).alloc pdOb := ⟨_, rfl⟩
  have hb1 : Below w.heap.size w W1 := by rw [hW1]; exact ((Below.refl _ w).new _).new _
  have hk1 : BkW W1 w.heap.size bk0 := by rw [hW1]; exact (bkW_new w).below ((Below.refl _ _).new _)
  have hp1 : PW W1 (w.heap.size + 1) 0 pd0 := by
    rw [hW1]
    have := pdW_new (w.alloc bookOb)
    rwa [World.size_alloc] at this
  have HW := Lib.hid hW1
  have HB1 := Lib.hid hb1
  have HP1 := Lib.hid hp1
  have hpost : Hid (Calls Tryz.prog 38 #[.pointer (some ⟨w.heap.size, 0, none⟩), .agg #[.int .i64 0, .string sS, .int .i64 1, .int .i64 2, .int .i64 10, .int .i64 0, .int .i64 3]] W1 fun x w' => x = .returned (.tuple #[.int .i64 1, .nilIface]) ∧ BkW w' w.heap.size bS ∧ Ch w.heap.size W1 w') := by
    have h := post_any w.heap.size bk0 eS W1 hk1 bkI0 (by decide) (by decide) (by decide)
    rw [sS_post] at h
    exact Lib.hid h
  clear hW1 hb1 hk1 hp1
  go_enter Tryz.func8, Tryz.ntmps8
  go_wp2_with fail
  rw [← HW.out]
  refine hpost.out.mono ?_
  rintro x w2 ⟨rfl, hk2, hc2⟩
  have HB2 := Lib.hid (HB1.out.trans hc2.toBelow)
  have HK2 := Lib.hid hk2
  have HP2 := Lib.hid (HP1.out.ch hc2 (by omega))
  clear hk2 hc2 hpost HP1
  go_wp2_with fail
  have h := pclose_any (w.heap.size + 1) 0 w.heap.size bS pd0 0 w2 HK2.out HP2.out iS (pdI0 bS) (hd.below HB2.out)
  rw [sS_close] at h
  refine h.mono ?_
  rintro x w3 ⟨rfl, hp3, hc3⟩
  have HB3 := Lib.hid (cpBelow hc3 HB2.out (by omega) HB2.out.size)
  have HK3 := Lib.hid (HK2.out.cp hc3 HP2.out.nt (by omega))
  have HP3 := Lib.hid hp3
  clear h hp3 hc3 HK2 HP2
  simp only [errB]
  go_wp2_with fail
  have hbn := (Below.refl w3.heap.size w3).new fS.ob
  have hl := late_any (w.heap.size + 1) 0 pS 30 _ (HP3.out.below hbn) (by decide) (hd.below (HB3.out.step hbn)) (by omega) (by omega)
  rw [mo30, sS_last] at hl
  refine hl.mono ?_
  rintro x w4 ⟨rfl, hb4⟩
  have HB4 := Lib.hid ((HB3.out.step hbn).step hb4)
  have HK4 := Lib.hid ((HK3.out.below hbn).below hb4)
  have HP4 := Lib.hid ((HP3.out.below hbn).below hb4)
  clear hl hb4 hbn HK3 HP3
  go_wp2_with fail
  have hl := late_any (w.heap.size + 1) 0 pS 31 _ HP4.out (by decide) (hd.below HB4.out) (by omega) (by omega)
  rw [mo31, sS_last] at hl
  refine hl.mono ?_
  rintro x w5 ⟨rfl, hb5⟩
  have HB5 := Lib.hid (HB4.out.step hb5)
  have HK5 := Lib.hid (HK4.out.below hb5)
  have HP5 := Lib.hid (HP4.out.below hb5)
  clear hl hb5 HK4 HP4
  go_wp2_with fail
  have h := pclose_any (w.heap.size + 1) 0 w.heap.size bS pS 0 w5 HK5.out HP5.out iS jS (hd.below HB5.out)
  rw [sS_again] at h
  refine h.mono ?_
  rintro x w6 ⟨rfl, hp6, hc6⟩
  have HB6 := Lib.hid (cpBelow hc6 HB5.out (by omega) HB5.out.size)
  have HK6 := Lib.hid (HK5.out.cp hc6 HP5.out.nt (by omega))
  have HP6 := Lib.hid hp6
  clear h hp6 hc6 HK5 HP5
  simp only [errB]
  go_wp2_with fail
  refine (tell_errno 10 _ (hw.below HB6.out)).mono ?_
  rintro x w7 ⟨rfl, hb7⟩
  have HB7 := Lib.hid (HB6.out.step hb7)
  have h := popen_any (w.heap.size + 1) 0 w.heap.size bS pS w7 (HK6.out.below hb7) (HP6.out.below hb7) iS jS (hd.below HB7.out)
  rw [sS_opn] at h
  go_wp2_with fail
  refine h.mono ?_
  rintro x w8 ⟨rfl, hb8⟩
  go_wp2_with fail
  go_ret
  exact ⟨rfl, HB7.out.step hb8⟩
end Go.Proofs.YtackpcohmmlkeaaGreatDoor
