/- A day's text in its three pieces: plain. -/
import Derived.Test.YtmkfdmbjeppndaaDoorDayX
import Derived.Lib.SplitLaws
namespace Go.Proofs.YtmkfdmbjeppndaaDoor.Dy

theorem dg45 (k : Nat) (h : k < 10) : (dg k == 45) = false := by
  rw [beq_eq_false_iff_ne]
  exact dg_ne k h 45 (by decide)

theorem txt_count (Y m D : Nat) (hY : Y < 10000) (hm : m < 100) (hD : D < 100) : Lib.count (txt Y m D) [45] = 2 := by
  rw [Lib.count_one]
  simp only [txt, four4, two2, List.cons_append, List.nil_append, List.count_cons, dg45 _ (show Y / 1000 < 10 by omega), dg45 _ (show Y / 100 % 10 < 10 by omega), dg45 _ (show Y / 10 % 10 < 10 by omega), dg45 _ (show Y % 10 < 10 by omega), dg45 _ (show m / 10 < 10 by omega), dg45 _ (show m % 10 < 10 by omega), dg45 _ (show D / 10 < 10 by omega), dg45 _ (show D % 10 < 10 by omega), List.count_nil]
  decide

theorem txt_split (Y m D : Nat) (hY : Y < 10000) (hm : m < 100) : Lib.splitK [45] 0 2 (txt Y m D) = [four4 Y, two2 m, two2 D] := by
  have i1 : Lib.indexByte (txt Y m D) 45 = 4 := by
    simp [txt, four4, two2, Lib.indexByte, dg45 _ (show Y / 1000 < 10 by omega), dg45 _ (show Y / 100 % 10 < 10 by omega), dg45 _ (show Y / 10 % 10 < 10 by omega), dg45 _ (show Y % 10 < 10 by omega)]
  have i2 : Lib.indexByte (two2 m ++ [45] ++ two2 D) 45 = 2 := by
    simp [two2, Lib.indexByte, dg45 _ (show m / 10 < 10 by omega), dg45 _ (show m % 10 < 10 by omega)]
  have e1 : (txt Y m D).drop 5 = two2 m ++ [45] ++ two2 D := rfl
  have e2 : (two2 m ++ [45] ++ two2 D).drop 3 = two2 D := rfl
  simp only [Lib.splitK, Lib.index_one, i1]
  rw [show ((4 : Int).toNat + [(45 : UInt8)].length) = 5 from rfl, e1, i2, show ((2 : Int).toNat + [(45 : UInt8)].length) = 3 from rfl, e2]
  rfl

theorem txt_splitB (s : ByteArray) (Y m D : Nat) (hY : Y < 10000) (hm : m < 100) (hs : s.data.toList = txt Y m D) : Lib.splitB ⟨#[45]⟩ 0 2 s = [⟨(four4 Y).toArray⟩, ⟨(two2 m).toArray⟩, ⟨(two2 D).toArray⟩] := by
  have h := Lib.splitB_data ⟨#[45]⟩ 0 2 s
  rw [hs, show (⟨#[45]⟩ : ByteArray).data.toList = [45] from rfl, txt_split Y m D hY hm] at h
  match hL : Lib.splitB ⟨#[45]⟩ 0 2 s with
  | [] => rw [hL] at h; simp at h
  | [_] => rw [hL] at h; simp at h
  | [_, _] => rw [hL] at h; simp at h
  | [a, b, c] =>
    rw [hL] at h
    simp only [List.map_cons, List.map_nil, List.cons.injEq, and_true] at h
    obtain ⟨h1, h2, h3⟩ := h
    rw [show a = ⟨(four4 Y).toArray⟩ from ByteArray.ext (Array.ext' (by rw [h1])), show b = ⟨(two2 m).toArray⟩ from ByteArray.ext (Array.ext' (by rw [h2])), show c = ⟨(two2 D).toArray⟩ from ByteArray.ext (Array.ext' (by rw [h3]))]
  | _ :: _ :: _ :: _ :: _ => rw [hL] at h; simp at h
end Go.Proofs.YtmkfdmbjeppndaaDoor.Dy
