/- tallymanref.ParseEvent: what it hands back. -/
import Derived.Test.YtjmeefmofbpbnaaGreatDoorJoined9
import Derived.Test.YtjmeefmofbpbnaaGreatDoorRnT
import Derived.Test.YtjmeefmofbpbnaaGreatDoorJoined13
import Derived.Deep.MidRow
namespace Go.Proofs.YtjmeefmofbpbnaaGreatDoor
open Go.RowKit
set_option linter.unusedVariables false

namespace Ev
/-- What the pieces of an event's text are. -/
theorem reads_pieces {l it z0 z1 z2 z3 z4 z5 : List UInt8} {r six : List (List UInt8)} {k q p o d : Int} (h : Reads l it k q p o d) (hZ : Sp.spl 32 l ++ six = z0 :: z1 :: z2 :: z3 :: z4 :: z5 :: r) :
    Dy.Text d z0 ∧ z1 = word k ∧ z2 = it ∧ ((k = 1 ∧ Nm.Is z3 q ∧ Mn.parse z5 = some p ∧ o = 0) ∨ (k = 2 ∧ Nm.Is z5 o ∧ Mn.parse z3 = some p ∧ q = 0) ∨ ((k = 3 ∨ k = 4) ∧ Nm.Is z3 q ∧ p = 0 ∧ o = 0)) := by
  obtain ⟨hr, ho, ht⟩ := h
  obtain ⟨dl, hd, e⟩ := text_spl (name_no hr.1) ht
  have hb := num_bd hr ho
  have hm := mon_bd hr
  have hp := Mn.parse_prt p (by omega) (by omega)
  obtain ⟨-, -, -, hk⟩ := hr
  rw [e] at hZ
  rcases hk with ⟨rfl, hk⟩ | ⟨rfl, hk⟩ | ⟨rfl, hk⟩ | ⟨rfl, hk⟩
  · rw [tailP, if_pos rfl] at hZ
    rw [if_neg (by decide)] at hb
    simp only [List.cons_append, List.nil_append, List.cons.injEq] at hZ
    obtain ⟨rfl, rfl, rfl, rfl, rfl, rfl, -⟩ := hZ
    exact ⟨hd, rfl, rfl, Or.inl ⟨rfl, ⟨hb.1, hb.2, rfl⟩, hp, by omega⟩⟩
  · rw [tailP, if_neg (by decide), if_pos rfl] at hZ
    rw [if_pos rfl] at hb
    simp only [List.cons_append, List.nil_append, List.cons.injEq] at hZ
    obtain ⟨rfl, rfl, rfl, rfl, rfl, rfl, -⟩ := hZ
    exact ⟨hd, rfl, rfl, Or.inr (Or.inl ⟨rfl, ⟨hb.1, hb.2, rfl⟩, hp, by omega⟩)⟩
  · rw [tailP, if_neg (by decide), if_neg (by decide)] at hZ
    rw [if_neg (by decide)] at hb
    simp only [List.cons_append, List.nil_append, List.cons.injEq] at hZ
    obtain ⟨rfl, rfl, rfl, rfl, -⟩ := hZ
    exact ⟨hd, rfl, rfl, Or.inr (Or.inr ⟨Or.inl rfl, ⟨hb.1, hb.2, rfl⟩, by omega, by omega⟩)⟩
  · rw [tailP, if_neg (by decide), if_neg (by decide)] at hZ
    rw [if_neg (by decide)] at hb
    simp only [List.cons_append, List.nil_append, List.cons.injEq] at hZ
    obtain ⟨rfl, rfl, rfl, rfl, -⟩ := hZ
    exact ⟨hd, rfl, rfl, Or.inr (Or.inr ⟨Or.inr rfl, ⟨hb.1, hb.2, rfl⟩, by omega, by omega⟩)⟩
theorem word_kind {k : Int} (h : k = 1 ∨ k = 2 ∨ k = 3 ∨ k = 4) : (word k = [105, 110] → k = 1) ∧ (word k = [99, 104, 97, 114, 103, 101] → k = 2) ∧ (word k = [111, 117, 116] → k = 3) ∧ (word k = [99, 111, 117, 110, 116] → k = 4) := by
  rcases h with rfl | rfl | rfl | rfl <;> decide
end Ev

theorem app_many {P : Program} {w : World} {ops : Array Oper} {rest : List Oper} {o : Oper} {a : Act} {Q : Exit → Act → World → Prop} (hgd : o.guard = none) (s x : Operand) (t : TypeId)
    (ho : o.op = .call { callee := .builtin .append, args := #[s, x], argTypes := #[t, t] })
    (base : Nat) (e : TypeId) (i : TypeInfo) (z : Value) (size bytes : Nat) (ht : P.underlying t = some (.slice e)) (hi : P.info? e = some i) (hz : i.zero = some z)
    (hsize : i.size = size) (hby : i.bytes = bytes) (hzs : z.cells.size = size) (hsz : 0 < size)
    (v : Value) (n : Nat) (xs : List Value) (hown : w.ownsRow base e size v n xs) (hs : a.eval s = v)
    (m : Nat) (us : List Value) (hul : us.length = m * size) (hx : a.eval x = .slice (some ⟨w.heap.size, 0, none⟩) m m) (h1 : ∀ u ∈ us, u.oneCell' = true)
    (h63 : n + m ≤ maxLen) (hbytes : (n + m) * bytes ≤ 140737488355328) (hbase : base ≤ w.heap.size)
    (h : ∀ v' w', w'.ownsRow base e size v' (n + m) (xs ++ us) → w.grownBy w' v.ownBlock → wpList P ops Q rest (a.put o.dst v') w') :
    wpList P ops Q (o :: rest) a (w.alloc (.cells us.toArray e)) := by
  refine wpList_append_own _ hgd s x t ho base e i z size bytes ht hi hz hsize hby hzs hsz v n xs hs (hown.alloc _) ⟨w.heap.size, 0, none⟩ m m us hx hul ?_ h1 h63 hbytes (by simp; omega) ?_
  · intro j u hj
    have e0 : (⟨w.heap.size, 0, none⟩ : Addr).add j = ⟨w.heap.size, j, none⟩ := by simp [Addr.add]; omega
    rw [e0]
    simp only [World.cell?, show (w.alloc (.cells us.toArray e)).heap[w.heap.size]? = some (.cells us.toArray e) from by show (w.heap.push _)[w.heap.size]? = _; simp]
    simpa using hj
  · intro v' w' hown' hg _
    refine h v' w' hown' ⟨hg.os, hg.tape, hg.output, Nat.le_trans (by simp) hg.size, fun k hk hne => ?_⟩
    rw [hg.block k (by simp; omega) hne, Below.heap_alloc _ _ _ hk]
/-- The call's own row, with an element: where it lies, and what it holds. -/
theorem own_form {w : World} {base e size n : Nat} {v : Value} {xs : List Value} (h : w.ownsRow base e size v n xs) (hn : 0 < n) : ∃ g cap, v = .slice (some ⟨g, 0, none⟩) n cap ∧ base ≤ g ∧ g < w.heap.size ∧ n ≤ cap ∧ cap ≤ maxLen ∧ ∀ j, j < xs.length → w.cell? ⟨g, j, none⟩ = some (xs.getD j undef) := by
  obtain ⟨hl, h⟩ := h
  rcases h with ⟨rfl, rfl⟩ | ⟨g, cap, cur, rfl, hB, hc, hnc, hm, hs, ht⟩
  · omega
  · refine ⟨g, cap, rfl, hB, (Array.getElem?_eq_some_iff.1 hc).1, hnc, hm, fun j hj => ?_⟩
    have h1 : (cur.toList.take (n * size))[j]? = xs[j]? := by rw [ht]
    rw [List.getElem?_take_of_lt (by omega)] at h1
    simp only [World.cell?, hc]
    simp only [Array.getElem?_toList] at h1
    simp [h1, List.getD, hj]
theorem split_own (c : UInt8) (s : ByteArray) (zs : List ByteArray) (n : Nat) (hn : zs.length = n) (hz : zs.map (fun z => z.data.toList) = Sp.spl c s.data.toList) (w : World) (base : Nat) (hbase : base ≤ w.heap.size) (hw : NW w) (hs : s.size ≤ 1000000) :
    Calls Tryz.prog 28 #[.string s, .string ⟨#[c]⟩] w (fun e w' => e = .returned (.slice (some ⟨w.heap.size, 0, none⟩) n n) ∧ w'.ownsRow base 9 1 (.slice (some ⟨w.heap.size, 0, none⟩) n n) n (zs.map Value.string) ∧ w.heap.size < w'.heap.size ∧ Below w.heap.size w w') := by
  obtain ⟨m, hm⟩ := hw.most
  refine (Tryz.strings_Split s ⟨#[c]⟩ m w (by omega) hm (by simp [ByteArray.size])).mono ?_
  rintro e w' ⟨rfl, rfl⟩
  have hB := Sp.splitB_spl c s
  rw [← hz, List.map_map] at hB
  have he : ((fun x : List UInt8 => (⟨x.toArray⟩ : ByteArray)) ∘ fun x : ByteArray => x.data.toList) = id := by
    funext x
    rfl
  rw [he, List.map_id] at hB
  have hl : Lib.countB s ⟨#[c]⟩ + 1 = n := by
    have := Sp.spl_len c s.data.toList
    rw [← hz, List.length_map, hn] at this
    rw [this]
    show Lib.count s.data.toList [c] + 1 = _
    rw [Lib.count_one]
  have hnb : n ≤ 1000001 := by
    have := Sp.spl_len c s.data.toList
    rw [← hz, List.length_map, hn] at this
    have h2 := List.count_le_length (a := c) (l := s.data.toList)
    have h3 : s.data.toList.length = s.size := by simp
    omega
  rw [hB, hl]
  refine ⟨rfl, ⟨by simp [hn], Or.inr ⟨w.heap.size, n, (zs.map Value.string).toArray, rfl, hbase, ?_, Nat.le_refl _, by unfold maxLen; omega, by simp [hn], ?_⟩⟩, by simp, (Below.refl _ _).alloc (Nat.le_refl _) _⟩
  · show (w.heap.push _)[w.heap.size]? = _
    simp
  · rw [List.take_of_length_le (by simp [hn])]

/-- The event that the text is; or none, and an error. -/
def RefEvParse (s : ByteArray) (w : World) (e : Ending) (w' : World) : Prop :=
  ((∃ (it : ByteArray) (k q p o d : Int), Ev.Reads s.data.toList it.data.toList k q p o d ∧ e = .returned (.tuple #[.agg #[.int .i64 0, .string it, .int .i64 k, .int .i64 q, .int .i64 p, .int .i64 o, .int .i64 d], .int .i64 0])) ∨
   (Ev.ReadsNo s.data.toList ∧ e = .returned (.tuple #[.agg #[.int .i64 0, .string ⟨#[]⟩, .int .i64 0, .int .i64 0, .int .i64 0, .int .i64 0, .int .i64 0], .int .i64 3]))) ∧ Below w.heap.size w w'
structure PW2 (w : World) : Prop where
  dr : DR w
  nw : NW w
theorem PW2.below {w w' : World} (h : PW2 w) (hb : Below w.heap.size w w') : PW2 w' := ⟨h.dr.below hb, h.nw.below hb⟩
theorem info_st : (Tryz.prog.info? 9).map (fun i => (i.zero, i.size, i.bytes)) = some (some (.string ⟨#[]⟩), 1, 16) := by kernel_rfl
theorem some_set {w : World} {b o : Nat} {v : Value} {x : Addr} (h : (w.cell? x).isSome = true) : ((w.setCell ⟨b, o, none⟩ v).cell? x).isSome = true := World.isSome_setCells b [v] o w x h
theorem some_new {w : World} {ob : Obj} {x : Addr} (h : (w.cell? x).isSome = true) (hx : x.block < w.heap.size) : ((w.alloc ob).cell? x).isSome = true := by
  rw [((Below.refl w.heap.size w).new ob).cell hx]
  exact h
def six : List ByteArray := [⟨#[]⟩, ⟨#[]⟩, ⟨#[]⟩, ⟨#[]⟩, ⟨#[]⟩, ⟨#[]⟩]
theorem six_one : ∀ u ∈ [Value.string ⟨#[]⟩, .string ⟨#[]⟩, .string ⟨#[]⟩, .string ⟨#[]⟩, .string ⟨#[]⟩, .string ⟨#[]⟩], u.oneCell' = true := by
  intro u hu
  simp at hu
  subst hu
  rfl
end Go.Proofs.YtjmeefmofbpbnaaGreatDoor
