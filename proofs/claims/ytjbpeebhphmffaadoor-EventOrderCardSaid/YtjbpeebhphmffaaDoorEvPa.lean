/- event.Parse: what it hands back; a text of too few pieces, and one that begins with no day. -/
import Derived.Test.YtjbpeebhphmffaaDoorEvP
import Derived.Test.YtjbpeebhphmffaaDoorEvF
import Derived.Test.YtjbpeebhphmffaaDoorNum
import Derived.Test.YtjbpeebhphmffaaDoorSplit
import Derived.Test.YtjbpeebhphmffaaDoorDayR
import Derived.Test.YtjbpeebhphmffaaDoorMoneyR
namespace Go.Proofs.YtjbpeebhphmffaaDoor
open Go.RowKit

/-- No event, of no number. -/
def noEvent : Value := .agg #[.int .i64 0, .string ⟨#[]⟩, .int .i64 0, .int .i64 0, .int .i64 0, .int .i64 0, .int .i64 0]
/-- The event that the text is; or none, and an error. -/
def EvParse (s : ByteArray) (w : World) (e : Ending) (w' : World) : Prop :=
  ((∃ (it : ByteArray) (k q p o d : Int), Ev.Reads s.data.toList it.data.toList k q p o d ∧ e = .returned (.tuple #[.agg #[.int .i64 0, .string it, .int .i64 k, .int .i64 q, .int .i64 p, .int .i64 o, .int .i64 d], .nilIface])) ∨
   (Ev.ReadsNo s.data.toList ∧ e = .returned (.tuple #[.agg #[.int .i64 0, .string ⟨#[]⟩, .int .i64 0, .int .i64 0, .int .i64 0, .int .i64 0, .int .i64 0], .iface 38 (.int .i64 3)]))) ∧ Below w.heap.size w w'

theorem below_set7 {B b : Nat} {a w : World} {v0 v1 v2 v3 v4 v5 v6 : Value} (h : Below B a w) (hp : B ≤ b) : Below B a (((((((w.setCell ⟨b, 0, none⟩ v0).setCell ⟨b, 1, none⟩ v1).setCell ⟨b, 2, none⟩ v2).setCell ⟨b, 3, none⟩ v3).setCell ⟨b, 4, none⟩ v4).setCell ⟨b, 5, none⟩ v5).setCell ⟨b, 6, none⟩ v6) :=
  ((((((h.setCell hp v0).setCell hp v1).setCell hp v2).setCell hp v3).setCell hp v4).setCell hp v5).setCell hp v6
/-- The block of a result that the call has laid first still has its cells. -/
theorem cells7 {w w5 : World} {t : TypeId} {z : Value} (h : Below (w.heap.size + 1) (w.alloc (.cells #[.int .i64 0, z, .int .i64 0, .int .i64 0, .int .i64 0, .int .i64 0, .int .i64 0] t)) w5) :
    ∀ j, j < 7 → (w5.cell? ⟨w.heap.size, j, none⟩).isSome = true := fun j hj => by
  rw [h.cell (p := ⟨w.heap.size, j, none⟩) (by simp)]
  match j, hj with
  | 0, _ => simp
  | 1, _ => simp
  | 2, _ => simp
  | 3, _ => simp
  | 4, _ => simp
  | 5, _ => simp
  | 6, _ => simp
theorem money_parse (z : ByteArray) (hs : z.size ≤ 1000000) : (∃ p, Mn.parse z.data.toList = some p ∧ ∀ w', Calls Tryd.prog 14 #[.string z] w' (Gives (.tuple #[.int .i64 p, .nilIface]) w')) ∨
    (Mn.parse z.data.toList = none ∧ ∀ w', Calls Tryd.prog 14 #[.string z] w' (Gives (.tuple #[.int .i64 0, .iface 38 (.int .i64 3)]) w')) := by
  have h := fun w' => parse_any z w' (by unfold maxLen; omega)
  unfold ParsePost at h
  rcases hp : Mn.parse z.data.toList with _ | p
  · refine Or.inr ⟨rfl, fun w' => (h w').mono ?_⟩
    rintro e w' ⟨h1, h2⟩
    rw [hp] at h1
    exact ⟨h1, h2⟩
  · refine Or.inl ⟨p, rfl, fun w' => (h w').mono ?_⟩
    rintro e w' ⟨h1, h2⟩
    rw [hp] at h1
    exact ⟨h1, h2⟩
theorem map_data (zs : List (List UInt8)) : (zs.map (fun x => (⟨x.toArray⟩ : ByteArray))).map (fun z => z.data.toList) = zs := by
  rw [List.map_map]
  have he : ((fun x : ByteArray => x.data.toList) ∘ fun x : List UInt8 => (⟨x.toArray⟩ : ByteArray)) = id := by
    funext x
    rfl
  rw [he, List.map_id]

set_option maxHeartbeats 1000000 in
set_option maxRecDepth 100000 in
theorem parse_few (s : ByteArray) (w : World) (hw : VW w) (hs : s.size ≤ 1000) (h : (Sp.spl 32 s.data.toList).length < 4) :
    Calls Tryd.prog 6 #[.string s] w (EvParse s w) := by
  have HN := Lib.hid (Ev.no_len h)
  have HS := Lib.hid (fun w' (h' : VW w') => split_one 32 s ((Sp.spl 32 s.data.toList).map (fun x => (⟨x.toArray⟩ : ByteArray))) (Sp.spl 32 s.data.toList).length (by simp) (map_data _) w' h'.nw (by omega))
  generalize (Sp.spl 32 s.data.toList).length = n at h HS
  have hb0 : Below w.heap.size w (w.alloc (.cells #[.int .i64 0, .string ⟨#[]⟩, .int .i64 0, .int .i64 0, .int .i64 0, .int .i64 0, .int .i64 0] 23)) := (Below.refl _ _).alloc (Nat.le_refl _) _
  have hn : (n : Int) < 4 := by omega
  go_enter Tryd.func6, Tryd.ntmps6
  go_wp2_with fail
  refine (HS.out _ (hw.below hb0)).mono ?_
  rintro e w1 ⟨rfl, -, hlt, hb⟩
  simp only [World.size_alloc] at hlt
  have hc := (bcell hb).1
  have hf := (bcell hb).2
  simp only [World.size_alloc] at hc hf
  have hl : w.heap.size < w1.heap.size := by omega
  go_wp2_with fail
  exact bodyPost_ret (v := .tuple #[.agg #[.int .i64 0, .string ⟨#[]⟩, .int .i64 0, .int .i64 0, .int .i64 0, .int .i64 0, .int .i64 0], .iface 38 (.int .i64 3)]) (by simp [results, Tryd.results6, go_sem, hc]) rfl ⟨Or.inr ⟨HN.out, rfl⟩, below_set7 (hb0.step hb) (Nat.le_refl _)⟩

set_option maxHeartbeats 1000000 in
set_option maxRecDepth 100000 in
theorem parse_noday (s z0 : ByteArray) (r : List ByteArray) (n : Nat) (w : World) (hw : VW w) (hs : s.size ≤ 1000) (hn : (z0 :: r).length = n) (h4 : 4 ≤ n) (hL : (z0 :: r).map (fun z => z.data.toList) = Sp.spl 32 s.data.toList)
    (hD : ∀ n, 0 ≤ n → n ≤ 99999 → ¬ Dy.Text n z0.data.toList) :
    Calls Tryd.prog 6 #[.string s] w (EvParse s w) := by
  have HN := Lib.hid (Ev.no_day (l := s.data.toList) (z0 := z0.data.toList) (r := r.map (fun z => z.data.toList)) (by rw [← hL]; rfl) hD)
  have HS := Lib.hid (fun w' (h' : VW w') => split_one 32 s (z0 :: r) n hn hL w' h'.nw (by omega))
  have HD := Lib.hid (fun w' (h' : VW w') => day_parse_no z0 w' h'.dw hD)
  have hb0 : Below w.heap.size w (w.alloc (.cells #[.int .i64 0, .string ⟨#[]⟩, .int .i64 0, .int .i64 0, .int .i64 0, .int .i64 0, .int .i64 0] 23)) := (Below.refl _ _).alloc (Nat.le_refl _) _
  have hni : (4 : Int) ≤ n := by omega
  clear hn hL hD h4
  go_enter Tryd.func6, Tryd.ntmps6
  go_wp2_with fail
  refine (HS.out _ (hw.below hb0)).mono ?_
  rintro e w1 ⟨rfl, hr, hlt, hb⟩
  simp only [World.size_alloc] at hlt hr
  have d0 := hr.str0 0 z0 rfl
  have hb1 : Below w.heap.size w w1 := hb0.step hb
  have hc := (bcell hb).1
  have hf := (bcell hb).2
  simp only [World.size_alloc] at hc hf
  have hl : w.heap.size < w1.heap.size := by omega
  clear hr hb
  go_wp2_with fail
  refine (HD.out _ (hw.below hb1)).mono ?_
  rintro e w2 ⟨rfl, hb⟩
  have hc2 := (bcell hb).1
  have hf2 := (bcell hb).2
  have hl2 : w.heap.size < w2.heap.size := Nat.lt_of_lt_of_le hl hb.size
  go_wp2_with fail
  exact bodyPost_ret (v := .tuple #[.agg #[.int .i64 0, .string ⟨#[]⟩, .int .i64 0, .int .i64 0, .int .i64 0, .int .i64 0, .int .i64 0], .iface 38 (.int .i64 3)]) (by simp [results, Tryd.results6, go_sem, hc2, hc, hl]) rfl ⟨Or.inr ⟨HN.out, rfl⟩, below_set7 (hb1.step hb) (Nat.le_refl _)⟩
end Go.Proofs.YtjbpeebhphmffaaDoor
