/- event.Parse at every text of at most 1000 bytes: what it hands back. -/
import Derived.Test.YtjmeefmofbpbnaaGreatDoorEvPb1
import Derived.Test.YtjmeefmofbpbnaaGreatDoorEvPb2
import Derived.Test.YtjmeefmofbpbnaaGreatDoorEvPb3
import Derived.Test.YtjmeefmofbpbnaaGreatDoorEvPb4
import Derived.Test.YtjmeefmofbpbnaaGreatDoorEvPn
namespace Go.Proofs.YtjmeefmofbpbnaaGreatDoor
open Go.RowKit

namespace Ev
theorem shape_long {y0 y1 y2 y3 : List UInt8} {r : List (List UInt8)} (h0 : r.length ≠ 0) (h2 : r.length ≠ 2) : shape (y0 :: y1 :: y2 :: y3 :: r) = none := by
  match r, h0, h2 with
  | [], h0, _ => exact absurd rfl h0
  | [_], _, _ => rfl
  | [_, _], _, h2 => exact absurd rfl h2
  | _ :: _ :: _ :: _, _, _ => rfl
theorem shape_four {y0 y1 y2 y3 : List UInt8} (h3 : y1 ≠ [111, 117, 116]) (h4 : y1 ≠ [99, 111, 117, 110, 116]) : shape [y0, y1, y2, y3] = none := by
  simp only [shape]
  rw [if_neg h3, if_neg h4]
theorem shape_six {y0 y1 y2 y3 y4 y5 : List UInt8} (h1 : ¬ (y1 = [105, 110] ∧ y4 = [97, 116])) (h2 : ¬ (y1 = [99, 104, 97, 114, 103, 101] ∧ y4 = [102, 111, 114])) : shape [y0, y1, y2, y3, y4, y5] = none := by
  simp only [shape]
  rw [if_neg h1, if_neg h2]
end Ev

theorem int_ne (n k : Nat) (h : n ≠ k) : ((n : Int) == (k : Int)) = false := by
  rw [beq_eq_false_iff_ne]
  omega
def ba (l : List UInt8) : ByteArray := ⟨l.toArray⟩
theorem ba_data (l : List UInt8) : (ba l).data.toList = l := rfl
theorem map_ba (r : List (List UInt8)) : (r.map ba).map (fun z => z.data.toList) = r := map_data r

theorem parse_event (s : ByteArray) (w : World) (hw : VW w) (hs : s.size ≤ 1000) : Calls Tryz.prog 14 #[.string s] w (EvParse s w) := by
  by_cases hlen : (Sp.spl 32 s.data.toList).length < 4
  · exact parse_few s w hw hs hlen
  · obtain ⟨y0, y1, y2, y3, r, e⟩ : ∃ y0 y1 y2 y3 r, Sp.spl 32 s.data.toList = y0 :: y1 :: y2 :: y3 :: r := by
      match h : Sp.spl 32 s.data.toList with
      | [] => rw [h] at hlen; simp at hlen
      | [_] => rw [h] at hlen; simp at hlen
      | [_, _] => rw [h] at hlen; simp at hlen
      | [_, _, _] => rw [h] at hlen; simp at hlen
      | y0 :: y1 :: y2 :: y3 :: r => exact ⟨y0, y1, y2, y3, r, rfl⟩
    clear hlen
    have hz : (ba y0 :: ba y1 :: ba y2 :: ba y3 :: r.map ba).map (fun z => z.data.toList) = Sp.spl 32 s.data.toList := by
      rw [e]
      simp only [List.map_cons, map_ba, ba_data]
    by_cases hd : ∃ d, 0 ≤ d ∧ d ≤ 99999 ∧ Dy.Text d y0
    · obtain ⟨d, d0, d1, hD⟩ := hd
      have hn4 : (4 : Int) ≤ ((r.length + 4 : Nat) : Int) := by omega
      by_cases h1 : y1 = [105, 110]
      · subst h1
        by_cases h6 : r.length = 2
        · obtain ⟨y4, y5, rfl⟩ : ∃ a b, r = [a, b] := by
            match r, h6 with
            | [a, b], _ => exact ⟨a, b, rfl⟩
          by_cases h4 : y4 = [97, 116]
          · subst h4
            exact parse_in s (ba y0) (ba y2) (ba y3) (ba y5) d w hw hs e d0 d1 hD
          · exact parse_n1b s (ba y0) (ba y2) (ba y3) (ba y4) (ba y5) d w hw hs rfl hz d0 d1 hD (Ev.no_shape (by rw [e]; exact Ev.shape_six (fun h => h4 h.2) (fun h => by have := h.1; simp at this))) (ba_ne h4)
        · refine parse_n1a s (ba y0) (ba y2) (ba y3) (r.map ba) (r.length + 4) d w hw hs (by simp) hn4 hz d0 d1 hD (Ev.no_shape ?_) (int_ne _ 6 (by omega))
          rw [e]
          by_cases h0 : r.length = 0
          · obtain rfl := List.eq_nil_of_length_eq_zero h0
            exact Ev.shape_four (by simp) (by simp)
          · exact Ev.shape_long h0 h6
      · by_cases h2 : y1 = [99, 104, 97, 114, 103, 101]
        · subst h2
          by_cases h6 : r.length = 2
          · obtain ⟨y4, y5, rfl⟩ : ∃ a b, r = [a, b] := by
              match r, h6 with
              | [a, b], _ => exact ⟨a, b, rfl⟩
            by_cases h4 : y4 = [102, 111, 114]
            · subst h4
              exact parse_charge s (ba y0) (ba y2) (ba y3) (ba y5) d w hw hs e d0 d1 hD
            · exact parse_n2b s (ba y0) (ba y2) (ba y3) (ba y4) (ba y5) d w hw hs rfl hz d0 d1 hD (Ev.no_shape (by rw [e]; exact Ev.shape_six (fun h => h1 h.1) (fun h => h4 h.2))) (ba_ne h4)
          · refine parse_n2a s (ba y0) (ba y2) (ba y3) (r.map ba) (r.length + 4) d w hw hs (by simp) hn4 hz d0 d1 hD (Ev.no_shape ?_) (int_ne _ 6 (by omega))
            rw [e]
            by_cases h0 : r.length = 0
            · obtain rfl := List.eq_nil_of_length_eq_zero h0
              exact Ev.shape_four (by simp) (by simp)
            · exact Ev.shape_long h0 h6
        · by_cases h3 : y1 = [111, 117, 116]
          · subst h3
            by_cases h0 : r.length = 0
            · obtain rfl := List.eq_nil_of_length_eq_zero h0
              exact parse_out s (ba y0) (ba y2) (ba y3) d w hw hs e d0 d1 hD
            · refine parse_n3 s (ba y0) (ba y2) (ba y3) (r.map ba) (r.length + 4) d w hw hs (by simp) hn4 hz d0 d1 hD (Ev.no_shape ?_) (int_ne _ 4 (by omega))
              rw [e]
              by_cases h6 : r.length = 2
              · obtain ⟨y4, y5, rfl⟩ : ∃ a b, r = [a, b] := by
                  match r, h6 with
                  | [a, b], _ => exact ⟨a, b, rfl⟩
                exact Ev.shape_six (fun h => h1 h.1) (fun h => h2 h.1)
              · exact Ev.shape_long h0 h6
          · by_cases h4 : y1 = [99, 111, 117, 110, 116]
            · subst h4
              by_cases h0 : r.length = 0
              · obtain rfl := List.eq_nil_of_length_eq_zero h0
                exact parse_count s (ba y0) (ba y2) (ba y3) d w hw hs e d0 d1 hD
              · refine parse_n4 s (ba y0) (ba y2) (ba y3) (r.map ba) (r.length + 4) d w hw hs (by simp) hn4 hz d0 d1 hD (Ev.no_shape ?_) (int_ne _ 4 (by omega))
                rw [e]
                by_cases h6 : r.length = 2
                · obtain ⟨y4, y5, rfl⟩ : ∃ a b, r = [a, b] := by
                    match r, h6 with
                    | [a, b], _ => exact ⟨a, b, rfl⟩
                  exact Ev.shape_six (fun h => h1 h.1) (fun h => h2 h.1)
                · exact Ev.shape_long h0 h6
            · refine parse_n0 s (ba y0) (ba y1) (ba y2) (ba y3) (r.map ba) (r.length + 4) d w hw hs (by simp) hn4 hz d0 d1 hD (Ev.no_shape ?_) (ba_ne h1) (ba_ne h2) (ba_ne h3) (ba_ne h4)
              rw [e]
              by_cases h0 : r.length = 0
              · obtain rfl := List.eq_nil_of_length_eq_zero h0
                exact Ev.shape_four h3 h4
              · by_cases h6 : r.length = 2
                · obtain ⟨y4, y5, rfl⟩ : ∃ a b, r = [a, b] := by
                    match r, h6 with
                    | [a, b], _ => exact ⟨a, b, rfl⟩
                  exact Ev.shape_six (fun h => h1 h.1) (fun h => h2 h.1)
                · exact Ev.shape_long h0 h6
    · exact parse_noday s (ba y0) (ba y1 :: ba y2 :: ba y3 :: r.map ba) (r.length + 4) w hw hs (by simp) (by omega) hz (fun n h0 h1 h => hd ⟨n, h0, h1, h⟩)
end Go.Proofs.YtjmeefmofbpbnaaGreatDoor
