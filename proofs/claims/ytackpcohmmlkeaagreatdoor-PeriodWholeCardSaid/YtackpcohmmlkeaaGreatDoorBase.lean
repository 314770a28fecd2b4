/- Laws over any program that this seat's walks use. -/
import Derived.WalkKit
import Derived.WalkSpells
import Derived.WalkLawsBesides
import Derived.Deep.Draws
import Derived.Sort.WalkC
import Derived.Lib.RowBridge
namespace Go.RowKit
/-- 'Below' over a law that has written at most the row that the call owns. -/
theorem Below.owngrown {B : Nat} {w w1 w2 : World} {e size : Nat} {v : Value} {n : Nat} {xs : List Value} (h : Below B w w1) (ho : w1.ownsRow B e size v n xs) (hg : w1.grownBy w2 v.ownBlock) (hB : B ≤ w.heap.size := by omega) : Below B w w2 := by
  refine h.grown hg (Nat.le_trans hB h.size) ?_
  intro k hk
  obtain ⟨_, ho⟩ := ho
  rcases ho with ⟨rfl, _⟩ | ⟨g, cap, cur, rfl, hB, _⟩
  · simp [Value.ownBlock] at hk
  · simp [Value.ownBlock] at hk; omega
/-- One call more, of which is known that it turns nothing that was there ahead of it. -/
theorem Below.step {w a b : World} (h : Below w.heap.size w a) (h2 : Below a.heap.size a b) : Below w.heap.size w b := h.trans (h2.mono h.size)
theorem Below.new {w a : World} (h : Below w.heap.size w a) (o : Obj) : Below w.heap.size w (a.alloc o) := h.alloc h.size o
end Go.RowKit

namespace Go.Proofs.YtackpcohmmlkeaaGreatDoor
open Go.RowKit

/-- 'append(out, x)', x one element of 'us.length' cells that the statement has just laid: out is the call's own. -/
theorem app_one {P : Program} {w : World} {ops : Array Oper} {rest : List Oper} {o : Oper} {a : Act} {Q : Exit → Act → World → Prop} (hgd : o.guard = none) (s x : Operand) (t : TypeId)
    (ho : o.op = .call { callee := .builtin .append, args := #[s, x], argTypes := #[t, t] })
    (base : Nat) (e : TypeId) (i : TypeInfo) (z : Value) (size bytes : Nat) (ht : P.underlying t = some (.slice e)) (hi : P.info? e = some i) (hz : i.zero = some z)
    (hsize : i.size = size) (hby : i.bytes = bytes) (hzs : z.cells.size = size) (hsz : 0 < size)
    (v : Value) (n : Nat) (xs : List Value) (hown : w.ownsRow base e size v n xs) (hs : a.eval s = v)
    (us : List Value) (hul : us.length = size) (hx : a.eval x = .slice (some ⟨w.heap.size, 0, none⟩) 1 1) (h1 : ∀ u ∈ us, u.oneCell' = true)
    (h63 : n + 1 ≤ maxLen) (hbytes : (n + 1) * bytes ≤ 140737488355328) (hbase : base ≤ w.heap.size)
    (h : ∀ v' w', w'.ownsRow base e size v' (n + 1) (xs ++ us) → w.grownBy w' v.ownBlock → wpList P ops Q rest (a.put o.dst v') w') :
    wpList P ops Q (o :: rest) a (w.alloc (.cells us.toArray e)) := by
  refine wpList_append_own _ hgd s x t ho base e i z size bytes ht hi hz hsize hby hzs hsz v n xs hs (hown.alloc _) ⟨w.heap.size, 0, none⟩ 1 1 us hx (by omega) ?_ h1 h63 hbytes (by simp; omega) ?_
  · intro j u hj
    have e0 : (⟨w.heap.size, 0, none⟩ : Addr).add j = ⟨w.heap.size, j, none⟩ := by simp [Addr.add]; omega
    rw [e0]
    simp only [World.cell?, show (w.alloc (.cells us.toArray e)).heap[w.heap.size]? = some (.cells us.toArray e) from by show (w.heap.push _)[w.heap.size]? = _; simp]
    simpa using hj
  · intro v' w' hown' hg _
    refine h v' w' hown' ⟨hg.os, hg.tape, hg.output, Nat.le_trans (by simp) hg.size, fun k hk hne => ?_⟩
    rw [hg.block k (by simp; omega) hne, Below.heap_alloc _ _ _ hk]

theorem one_int (k : IntKind) (x : Int) : ∀ u ∈ [Value.int k x], u.oneCell' = true := by intro u hu; simp at hu; subst hu; rfl


/-- An owned row's cells, in the sort's words. -/
theorem holds_of_row {w : World} {g : Nat} {cur : Array Value} {e : TypeId} {k : IntKind} {L : List Int} (hb : w.heap[g]? = some (.cells cur e (0, 0))) (hc : cur.toList.take L.length = L.map (Value.int k)) :
    Go.Sort.Holds (Value.int k) w g 0 L.toArray := by
  intro j hj
  have hj' : j < L.length := by simpa using hj
  have h1 : cur[j]? = some (Value.int k L[j]) := by
    have h2 : (cur.toList.take L.length)[j]? = (L.map (Value.int k))[j]? := by rw [hc]
    rw [List.getElem?_take_of_lt hj'] at h2
    simpa [hj'] using h2
  refine ⟨?_, by simp [World.frozen?, hb]⟩
  simp [World.cell?, hb, h1, hj']

theorem foldl_push (L : List Int) : ∀ s : ByteArray, (L.foldl (fun (r : ByteArray) (n : Int) => r.push (UInt8.ofNat n.toNat)) s) = ⟨(s.data.toList ++ L.map (fun x => UInt8.ofNat x.toNat)).toArray⟩ := by
  induction L with
  | nil => intro s; simp
  | cons x L ih => intro s; rw [List.foldl_cons, ih]; simp [ByteArray.push]

/-- 'string(b)' of a row of bytes. -/
theorem conv_holds {P : Program} {w : World} {g : Nat} {L : List Int} {n cap : Nat} (src dst e : TypeId) (hs : P.underlying src = some (.slice e)) (he : P.underlying e = some (.int .u8)) (hd : P.underlying dst = some .string)
    (hH : Go.Sort.Holds (Value.int .u8) w g 0 L.toArray) (hn : n = L.length) :
    (convert src dst (.slice (some ⟨g, 0, none⟩) n cap)).run P w = .ok (.string ⟨(L.map (fun x => UInt8.ofNat x.toNat)).toArray⟩) w := by
  subst hn
  rw [run_convert_bytes_string w src dst e _ _ _ hs he hd]
  rw [run_bytesToString w ⟨g, 0, none⟩ L.length cap L]
  · rw [foldl_push]; rfl
  · have := run_loadCells_list (P := P) (w := w) ⟨g, 0, none⟩ (L.map (Value.int .u8)) (fun j v hv => ?_)
    · simpa using this
    · simp only [List.getElem?_map] at hv
      have hj : j < L.length := by
        apply Classical.byContradiction; intro h; rw [List.getElem?_eq_none (by omega)] at hv; simp at hv
      have := (hH j (by simpa using hj)).1
      have e0 : (⟨g, 0, none⟩ : Addr).add j = ⟨g, 0 + j, none⟩ := by simp [Addr.add]; omega
      rw [e0, this]
      simpa [hj] using hv

/-- From the address a on the world holds these cells (nothing is said of a, where there are none). -/
def Rd (w : World) (a : Option Addr) (vs : List Value) : Prop := ∀ j, j < vs.length → ∃ b off, a = some ⟨b, off, none⟩ ∧ w.cell? ⟨b, off + j, none⟩ = some (vs.getD j undef)

theorem Rd.nil (w : World) (a : Option Addr) : Rd w a [] := fun j h => absurd h (by simp)

theorem cell_lt {w : World} {b o : Nat} {v : Value} (hc : w.cell? ⟨b, o, none⟩ = some v) : b < w.heap.size := by
  apply Classical.byContradiction
  intro hn
  simp only [World.cell?] at hc
  rw [Array.getElem?_eq_none (by omega)] at hc
  simp at hc

theorem Rd.below {w w' : World} {a : Option Addr} {vs : List Value} (h : Rd w a vs) (hb : Below w.heap.size w w') : Rd w' a vs := by
  intro j hj
  obtain ⟨b, off, ha, hc⟩ := h j hj
  refine ⟨b, off, ha, ?_⟩
  have hlt : b < w.heap.size := by
    apply Classical.byContradiction
    intro hn
    simp only [World.cell?] at hc
    rw [Array.getElem?_eq_none (by omega)] at hc
    simp at hc
  rw [hb.cell (p := ⟨b, off + j, none⟩) hlt, hc]

theorem Rd.at {w : World} {a : Option Addr} {vs : List Value} (h : Rd w a vs) (j : Nat) (hj : j < vs.length) : ∃ b off, a = some ⟨b, off, none⟩ ∧ w.cell? ⟨b, off + j, none⟩ = some (vs.getD j undef) := h j hj

theorem Rd.ints {w : World} {a : Option Addr} {k : IntKind} {zs : List Int} (h : Rd w a (zs.map (Value.int k))) (j : Nat) (hj : j < zs.length) : ∃ b off, a = some ⟨b, off, none⟩ ∧ w.cell? ⟨b, off + j, none⟩ = some (.int k (zs.getD j 0)) := by
  obtain ⟨b, off, ha, hc⟩ := h j (by simpa using hj)
  exact ⟨b, off, ha, by rw [hc]; simp [List.getD, hj]⟩

/-- What a slice of the call's own holds, for reading. -/
theorem rd_of_own {w : World} {base e size n : Nat} {v : Value} {xs : List Value} (h : w.ownsRow base e size v n xs) : ∃ a cap, v = .slice a n cap ∧ Rd w a xs ∧ n ≤ cap ∧ cap ≤ maxLen := by
  obtain ⟨hl, h⟩ := h
  rcases h with ⟨rfl, rfl⟩ | ⟨g, cap, cur, rfl, hB, hc, hn, hm, hs, ht⟩
  · exact ⟨none, 0, rfl, by have : xs = [] := by simpa using hl
                            subst this; exact Rd.nil _ _, Nat.le_refl _, by simp [maxLen]⟩
  · refine ⟨_, cap, rfl, fun j hj => ⟨g, 0, rfl, ?_⟩, hn, hm⟩
    have h1 : (cur.toList.take (n * size))[j]? = xs[j]? := by rw [ht]
    rw [List.getElem?_take_of_lt (by omega)] at h1
    simp only [World.cell?, hc, Nat.zero_add]
    simp only [Array.getElem?_toList] at h1
    simp [h1, List.getD, hj]

theorem Rd.alloc {w : World} {a : Option Addr} {vs : List Value} (h : Rd w a vs) (o : Obj) : Rd (w.alloc o) a vs := h.below ((Below.refl _ _).alloc (Nat.le_refl _) _)


/-- A text's byte at a place. -/
theorem index_at {P : Program} (t : TypeId) (ht : P.underlying t = some .string) (s : ByteArray) (i : Nat) (z : Int) (hz : z = i) (h : i < s.size) (w : World) :
    (Instr.index t (.string s) (.int .i64 z)).run P w = .ok (.int .u8 ((s.data.toList.getD i 0).toNat : Int)) w := by
  subst hz
  rw [run_index_string _ _ _ _ _ ht, dif_pos ⟨by omega, by omega⟩]
  simp [List.getD, h]
  rfl

theorem slice_to {P : Program} (t : TypeId) (ht : P.underlying t = some .string) (s : ByteArray) (n : Nat) (z : Int) (hz : z = n) (h : n ≤ s.size) (w : World) :
    (Instr.slice t (.string s) none (some (.int .i64 z)) none).run P w = .ok (.string (s.extract 0 n)) w := by
  subst hz
  rw [run_slice_string_h w t s ht .i64 _ (by omega) (by omega)]; simp
theorem slice_from {P : Program} (t : TypeId) (ht : P.underlying t = some .string) (s : ByteArray) (n : Nat) (z : Int) (hz : z = n) (h : n ≤ s.size) (w : World) :
    (Instr.slice t (.string s) (some (.int .i64 z)) none none).run P w = .ok (.string (s.extract n s.size)) w := by
  subst hz
  rw [run_slice_string_l w t s ht .i64 _ (by omega) (by omega)]; simp
theorem slice_mid {P : Program} (t : TypeId) (ht : P.underlying t = some .string) (s : ByteArray) (m n : Nat) (y z : Int) (hy : y = m) (hz : z = n) (h1 : m ≤ n) (h : n ≤ s.size) (w : World) :
    (Instr.slice t (.string s) (some (.int .i64 y)) (some (.int .i64 z)) none).run P w = .ok (.string (s.extract m n)) w := by
  subst hy
  subst hz
  rw [run_slice_string w t s .i64 .i64 _ _ ht (by omega) (by omega) (by omega)]; simp

theorem own_below {w w' : World} {base e size n : Nat} {v : Value} {xs : List Value} (h : w.ownsRow base e size v n xs) (hb : Below w.heap.size w w') : w'.ownsRow base e size v n xs :=
  h.kept (row := none) ⟨hb.os, hb.tape, hb.output, hb.size, fun k hk _ => hb.block k hk⟩ (by
    cases v.ownBlock with
    | none => exact Or.inl rfl
    | some _ => exact Or.inr (by simp))

theorem Rd.strs {w : World} {a : Option Addr} {zs : List ByteArray} (h : Rd w a (zs.map Value.string)) (j : Nat) (hj : j < zs.length) : ∃ b off, a = some ⟨b, off, none⟩ ∧ w.cell? ⟨b, off + j, none⟩ = some (.string (zs.getD j ByteArray.empty)) := by
  obtain ⟨b, off, ha, hc⟩ := h j (by simpa using hj)
  exact ⟨b, off, ha, by rw [hc]; simp [List.getD, hj]⟩
theorem Rd.take {w : World} {a : Option Addr} {vs : List Value} (h : Rd w a vs) (k : Nat) : Rd w a (vs.take k) := by
  intro j hj
  simp at hj
  obtain ⟨b, off, ha, hc⟩ := h j (by omega)
  exact ⟨b, off, ha, by rw [hc]; simp [List.getD, List.getElem?_take_of_lt (show j < k by omega)]⟩

end Go.Proofs.YtackpcohmmlkeaaGreatDoor
