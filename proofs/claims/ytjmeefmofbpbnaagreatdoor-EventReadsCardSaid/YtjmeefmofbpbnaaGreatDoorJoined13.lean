/- Joined: Num, EvPa, EvPd. -/
import Derived.Deep.QuietTactic
import Derived.BigQuiet
import Derived.Test.YtjmeefmofbpbnaaGreatDoorJoined3
import Derived.Test.YtjmeefmofbpbnaaGreatDoorJoined8
import Derived.Test.YtjmeefmofbpbnaaGreatDoorEvP
import Derived.Test.YtjmeefmofbpbnaaGreatDoorEvF
import Derived.Test.YtjmeefmofbpbnaaGreatDoorJoined11
import Derived.Test.YtjmeefmofbpbnaaGreatDoorDayR
import Derived.Test.YtjmeefmofbpbnaaGreatDoorMoneyR

section
/- event.number: what it hands back. -/
namespace Go.Proofs.YtjmeefmofbpbnaaGreatDoor
open Go.RowKit

/-- A number as it is written, and true; or false. -/
def NumPost (s : ByteArray) (w : World) (e : Ending) (w' : World) : Prop :=
  ((∃ v, Nm.Is s.data.toList v ∧ e = .returned (.tuple #[.int .i64 v, .bool true])) ∨ (Nm.No s.data.toList ∧ ∃ v, e = .returned (.tuple #[.int .i64 v, .bool false]))) ∧ Below w.heap.size w w'

set_option maxHeartbeats 1000000 in
theorem number_any (s : ByteArray) (w : World) (hw : NW w) (hs : s.size ≤ 1000) :
    Calls Tryz.prog 33 #[.string s] w (NumPost s w) := by
  go_enter Tryz.func33, Tryz.ntmps33
  go_wp2_with fail
  refine (NW.atoi s _ hw hs).mono ?_
  rintro e w1 ⟨v, er, rfl, h, hb⟩
  have hw1 := hw.below hb
  rcases h with ⟨hv, rfl⟩ | ⟨hv, N, rfl⟩
  · have bd := Lib.atoiAll_bounds hv
    obtain ⟨b0, b1⟩ := bd
    obtain ⟨t, ht⟩ : ∃ t : ByteArray, t = ⟨(Lib.itoa v).toArray⟩ := ⟨_, rfl⟩
    have HI : Hid (∀ w', NW w' → Calls Tryz.prog 22 #[.int .i64 v] w' (Gives (.string t) w')) := Lib.hid (fun w' h => by rw [ht]; exact NW.itoa v w' h b0 b1)
    have htl : t.data.toList = Lib.itoa v := by rw [ht]
    by_cases hq : Lib.itoa v = s.data.toList
    · have q1 : (t.toList == s.toList) = true := by rw [Go.ByteArray.toList_eq, Go.ByteArray.toList_eq, htl, hq]; simp
      have HQ : Hid (Nm.Is s.data.toList v) := Lib.hid ⟨b0, b1, hq⟩
      clear hq htl ht hv b0 b1
      go_wp2_with fail
      refine (HI.out _ hw1).mono ?_
      rintro e w2 ⟨rfl, hb2⟩
      go_wp2_with fail
      go_ret2
      exact ⟨Or.inl ⟨v, HQ.out, rfl⟩, hb.step hb2⟩
    · have q1 : (t.toList == s.toList) = false := by rw [Go.ByteArray.toList_eq, Go.ByteArray.toList_eq, htl]; simpa using hq
      have HQ : Hid (Nm.No s.data.toList) := Lib.hid (fun u hu => by
        have := Nm.atoi_itoa u hu.1 hu.2.1
        rw [hu.2.2, hv] at this
        injection this with this
        subst this
        exact hq hu.2.2)
      clear hq htl ht hv b0 b1
      go_wp2_with fail
      refine (HI.out _ hw1).mono ?_
      rintro e w2 ⟨rfl, hb2⟩
      go_wp2_with fail
      go_ret2
      exact ⟨Or.inr ⟨HQ.out, v, rfl⟩, hb.step hb2⟩
  · have HQ : Hid (Nm.No s.data.toList) := Lib.hid (fun u hu => by
      have := Nm.atoi_itoa u hu.1 hu.2.1
      rw [hu.2.2] at this
      exact hv u this)
    clear hv
    go_wp2_with fail
    go_ret2
    exact ⟨Or.inr ⟨HQ.out, v, rfl⟩, hb⟩
end Go.Proofs.YtjmeefmofbpbnaaGreatDoor
end

section
/- event.Parse: what it hands back; a text of too few pieces, and one that begins with no day. -/
namespace Go.Proofs.YtjmeefmofbpbnaaGreatDoor
open Go.RowKit

/-- No event, of no number. -/
def noEvent : Value := .agg #[.int .i64 0, .string ⟨#[]⟩, .int .i64 0, .int .i64 0, .int .i64 0, .int .i64 0, .int .i64 0]
/-- The event that the text is; or none, and an error. -/
def EvParse (s : ByteArray) (w : World) (e : Ending) (w' : World) : Prop :=
  ((∃ (it : ByteArray) (k q p o d : Int), Ev.Reads s.data.toList it.data.toList k q p o d ∧ e = .returned (.tuple #[.agg #[.int .i64 0, .string it, .int .i64 k, .int .i64 q, .int .i64 p, .int .i64 o, .int .i64 d], .nilIface])) ∨
   (Ev.ReadsNo s.data.toList ∧ e = .returned (.tuple #[.agg #[.int .i64 0, .string ⟨#[]⟩, .int .i64 0, .int .i64 0, .int .i64 0, .int .i64 0, .int .i64 0], .iface 28 (.int .i64 3)]))) ∧ Below w.heap.size w w'

theorem below_set7 {B b : Nat} {a w : World} {v0 v1 v2 v3 v4 v5 v6 : Value} (h : Below B a w) (hp : B ≤ b) : Below B a (((((((w.setCell ⟨b, 0, none⟩ v0).setCell ⟨b, 1, none⟩ v1).setCell ⟨b, 2, none⟩ v2).setCell ⟨b, 3, none⟩ v3).setCell ⟨b, 4, none⟩ v4).setCell ⟨b, 5, none⟩ v5).setCell ⟨b, 6, none⟩ v6) :=
  ((((((h.setCell hp v0).setCell hp v1).setCell hp v2).setCell hp v3).setCell hp v4).setCell hp v5).setCell hp v6
/-- The block of a result that the call has laid first still has its cells. -/
theorem cells7 {w w5 : World} {t : TypeId} {z : Value} (h : Below (w.heap.size + 1) (w.alloc (.cells #[.int .i64 0, z, .int .i64 0, .int .i64 0, .int .i64 0, .int .i64 0, .int .i64 0] t)) w5) :
    ∀ j, j < 7 → (w5.cell? ⟨w.heap.size, j, none⟩).isSome = true := fun j hj => by
  rw [h.cell (p := ⟨w.heap.size, j, none⟩) (by simp)]
  match j, hj with
  | 0, _ => simp
  | 1, _ => simp
  | 2, _ => simp
  | 3, _ => simp
  | 4, _ => simp
  | 5, _ => simp
  | 6, _ => simp
theorem money_parse (z : ByteArray) (hs : z.size ≤ 1000000) : (∃ p, Mn.parse z.data.toList = some p ∧ ∀ w', Calls Tryz.prog 34 #[.string z] w' (Gives (.tuple #[.int .i64 p, .nilIface]) w')) ∨
    (Mn.parse z.data.toList = none ∧ ∀ w', Calls Tryz.prog 34 #[.string z] w' (Gives (.tuple #[.int .i64 0, .iface 28 (.int .i64 3)]) w')) := by
  have h := fun w' => parse_any z w' (by unfold maxLen; omega)
  unfold ParsePost at h
  rcases hp : Mn.parse z.data.toList with _ | p
  · refine Or.inr ⟨rfl, fun w' => (h w').mono ?_⟩
    rintro e w' ⟨h1, h2⟩
    rw [hp] at h1
    exact ⟨h1, h2⟩
  · refine Or.inl ⟨p, rfl, fun w' => (h w').mono ?_⟩
    rintro e w' ⟨h1, h2⟩
    rw [hp] at h1
    exact ⟨h1, h2⟩
theorem map_data (zs : List (List UInt8)) : (zs.map (fun x => (⟨x.toArray⟩ : ByteArray))).map (fun z => z.data.toList) = zs := by
  rw [List.map_map]
  have he : ((fun x : ByteArray => x.data.toList) ∘ fun x : List UInt8 => (⟨x.toArray⟩ : ByteArray)) = id := by
    funext x
    rfl
  rw [he, List.map_id]

set_option maxHeartbeats 1000000 in
set_option maxRecDepth 100000 in
theorem parse_few (s : ByteArray) (w : World) (hw : VW w) (hs : s.size ≤ 1000) (h : (Sp.spl 32 s.data.toList).length < 4) :
    Calls Tryz.prog 14 #[.string s] w (EvParse s w) := by
  have HN := Lib.hid (Ev.no_len h)
  have HS := Lib.hid (fun w' (h' : VW w') => split_one 32 s ((Sp.spl 32 s.data.toList).map (fun x => (⟨x.toArray⟩ : ByteArray))) (Sp.spl 32 s.data.toList).length (by simp) (map_data _) w' h'.nw (by omega))
  generalize (Sp.spl 32 s.data.toList).length = n at h HS
  have hb0 : Below w.heap.size w (w.alloc (.cells #[.int .i64 0, .string ⟨#[]⟩, .int .i64 0, .int .i64 0, .int .i64 0, .int .i64 0, .int .i64 0] 23)) := (Below.refl _ _).alloc (Nat.le_refl _) _
  have hn : (n : Int) < 4 := by omega
  go_enter Tryz.func14, Tryz.ntmps14
  go_wp2_with fail
  refine (HS.out _ (hw.below hb0)).mono ?_
  rintro e w1 ⟨rfl, -, hlt, hb⟩
  simp only [World.size_alloc] at hlt
  have hc := (bcell hb).1
  have hf := (bcell hb).2
  simp only [World.size_alloc] at hc hf
  have hl : w.heap.size < w1.heap.size := by omega
  go_wp2_with fail
  exact bodyPost_ret (v := .tuple #[.agg #[.int .i64 0, .string ⟨#[]⟩, .int .i64 0, .int .i64 0, .int .i64 0, .int .i64 0, .int .i64 0], .iface 28 (.int .i64 3)]) (by simp [results, Tryz.results14, go_sem, hc]) rfl ⟨Or.inr ⟨HN.out, rfl⟩, below_set7 (hb0.step hb) (Nat.le_refl _)⟩

set_option maxHeartbeats 1000000 in
set_option maxRecDepth 100000 in
theorem parse_noday (s z0 : ByteArray) (r : List ByteArray) (n : Nat) (w : World) (hw : VW w) (hs : s.size ≤ 1000) (hn : (z0 :: r).length = n) (h4 : 4 ≤ n) (hL : (z0 :: r).map (fun z => z.data.toList) = Sp.spl 32 s.data.toList)
    (hD : ∀ n, 0 ≤ n → n ≤ 99999 → ¬ Dy.Text n z0.data.toList) :
    Calls Tryz.prog 14 #[.string s] w (EvParse s w) := by
  have HN := Lib.hid (Ev.no_day (l := s.data.toList) (z0 := z0.data.toList) (r := r.map (fun z => z.data.toList)) (by rw [← hL]; rfl) hD)
  have HS := Lib.hid (fun w' (h' : VW w') => split_one 32 s (z0 :: r) n hn hL w' h'.nw (by omega))
  have HD := Lib.hid (fun w' (h' : VW w') => day_parse_no z0 w' h'.dw hD)
  have hb0 : Below w.heap.size w (w.alloc (.cells #[.int .i64 0, .string ⟨#[]⟩, .int .i64 0, .int .i64 0, .int .i64 0, .int .i64 0, .int .i64 0] 23)) := (Below.refl _ _).alloc (Nat.le_refl _) _
  have hni : (4 : Int) ≤ n := by omega
  clear hn hL hD h4
  go_enter Tryz.func14, Tryz.ntmps14
  go_wp2_with fail
  refine (HS.out _ (hw.below hb0)).mono ?_
  rintro e w1 ⟨rfl, hr, hlt, hb⟩
  simp only [World.size_alloc] at hlt hr
  have d0 := hr.str0 0 z0 rfl
  have hb1 : Below w.heap.size w w1 := hb0.step hb
  have hc := (bcell hb).1
  have hf := (bcell hb).2
  simp only [World.size_alloc] at hc hf
  have hl : w.heap.size < w1.heap.size := by omega
  clear hr hb
  go_wp2_with fail
  refine (HD.out _ (hw.below hb1)).mono ?_
  rintro e w2 ⟨rfl, hb⟩
  have hc2 := (bcell hb).1
  have hf2 := (bcell hb).2
  have hl2 : w.heap.size < w2.heap.size := Nat.lt_of_lt_of_le hl hb.size
  go_wp2_with fail
  exact bodyPost_ret (v := .tuple #[.agg #[.int .i64 0, .string ⟨#[]⟩, .int .i64 0, .int .i64 0, .int .i64 0, .int .i64 0, .int .i64 0], .iface 28 (.int .i64 3)]) (by simp [results, Tryz.results14, go_sem, hc2, hc, hl]) rfl ⟨Or.inr ⟨HN.out, rfl⟩, below_set7 (hb1.step hb) (Nat.le_refl _)⟩
end Go.Proofs.YtjmeefmofbpbnaaGreatDoor
end

section
/- event.Print at every event: what it hands back. -/
namespace Go.Proofs.YtjmeefmofbpbnaaGreatDoor
open Go.RowKit

set_option maxHeartbeats 1000000 in
set_option maxRecDepth 100000 in
theorem print_bad (i : Int) (s : ByteArray) (k q p o d : Int) (w : World) (hs : s.size ≤ 1000000) (hR : ¬ Ev.RightP s.data.toList k q p o d) :
    Calls Tryz.prog 11 #[.agg #[.int .i64 i, .string s, .int .i64 k, .int .i64 q, .int .i64 p, .int .i64 o, .int .i64 d]] w
      (Gives (.tuple #[.string ⟨#[]⟩, .iface 28 (.int .i64 1)]) w) := by
  have HR : Hid (∀ w1, Calls Tryz.prog 5 #[.agg #[.int .i64 i, .string s, .int .i64 k, .int .i64 q, .int .i64 p, .int .i64 o, .int .i64 d]] w1 (Gives (.bool false) w1)) := Lib.hid (fun w1 => by
    have := right_any i s k q p o d w1 hs
    rw [show Ev.rightB s.data.toList k q p o d = false from decide_eq_false hR] at this
    exact this)
  clear hR
  go_enter Tryz.func11, Tryz.ntmps11
  go_wp2_with fail
  refine (HR.out _).mono ?_
  rintro e w1 ⟨rfl, hb1⟩
  go_wp2_with fail
  go_ret2
  exact ⟨rfl, ((Below.refl _ _).new _).step hb1⟩

/-- An event's text; or none, and an error. -/
def EvPrint (s : ByteArray) (k q p o d : Int) (w : World) (e : Ending) (w' : World) : Prop :=
  ((∃ l, Ev.RightP s.data.toList k q p o d ∧ Ev.Text s.data.toList k q p o d l ∧ e = .returned (.tuple #[.string ⟨l.toArray⟩, .nilIface])) ∨
   (¬ Ev.RightP s.data.toList k q p o d ∧ e = .returned (.tuple #[.string ⟨#[]⟩, .iface 28 (.int .i64 1)]))) ∧ Below w.heap.size w w'
theorem print_event (i : Int) (s : ByteArray) (k q p o d : Int) (w : World) (hw : VW w) (hs : s.size ≤ 1000000) (ho : o ≤ 9223372036854775807) :
    Calls Tryz.prog 11 #[.agg #[.int .i64 i, .string s, .int .i64 k, .int .i64 q, .int .i64 p, .int .i64 o, .int .i64 d]] w (EvPrint s k q p o d w) := by
  by_cases hR : Ev.RightP s.data.toList k q p o d
  · rcases Ev.right_kind hR with rfl | rfl | rfl | rfl
    · exact (print_in i s q p o d w hw hs hR).mono fun e w' ⟨l, h1, h2, h3⟩ => ⟨Or.inl ⟨l, hR, h1, h2⟩, h3⟩
    · exact (print_charge i s q p o d w hw hs ho hR).mono fun e w' ⟨l, h1, h2, h3⟩ => ⟨Or.inl ⟨l, hR, h1, h2⟩, h3⟩
    · exact (print_out i s q p o d w hw hs hR).mono fun e w' ⟨l, h1, h2, h3⟩ => ⟨Or.inl ⟨l, hR, h1, h2⟩, h3⟩
    · exact (print_count i s q p o d w hw hs hR).mono fun e w' ⟨l, h1, h2, h3⟩ => ⟨Or.inl ⟨l, hR, h1, h2⟩, h3⟩
  · exact (print_bad i s k q p o d w hs hR).mono fun e w' ⟨h1, h2⟩ => ⟨Or.inr ⟨hR, h1⟩, h2⟩
end Go.Proofs.YtjmeefmofbpbnaaGreatDoor
end
