/-
  has and grown: contracts.
-/
import Derived.Test.YtehpbcpnmnhdbaaGreatDoorProg
import Derived.Test.YtehpbcpnmnhdbaaGreatDoorRv
import Derived.Laws.OwnMore
import Derived.Laws.CopyOwn
import Derived.WalkKit
import Derived.Below
import Derived.OwnWalk
import Derived.Laws.CopyRow
set_option linter.all false
namespace Go.Proofs.YtehpbcpnmnhdbaaGreatDoor
open Go Go.RowKit

set_option maxHeartbeats 1600000 in
theorem has_row (v : ByteArray) (n : Nat) (w : World) (hn : n < 65536) (hv : v.size ≤ 140737488351232) :
    Calls Tryz.prog 99 #[.string v, .int .i64 n] w fun e w' => e = .returned (.int .i64 (hasB v n)) ∧ w' = w := by
  go_enter Tryz.func99, Tryz.ntmps99
  go_wp2
  · rename_i h
    go_ret
    have hb : byteAt v (n / 8) = 0 := dif_neg (by omega)
    exact ⟨by simp [hasB, hb], rfl⟩
  · rename_i h _
    go_ret
    have hb : byteAt v (n / 8) = v[n / 8].toNat := dif_pos (by omega)
    refine ⟨?_, rfl⟩
    rw [has_eq _ _ v[n / 8].toNat_lt, hasB, hb]
    rfl

/-- Bytes as cells. -/
def byteCells (s : ByteArray) : List Value := s.data.toList.map fun b => .int .u8 b.toNat

theorem run_copy_str {P : Program} (w : World) (dT sT ty elem : TypeId) (g dLen dCap : Nat) (s : ByteArray) (cur : Array Value) (t : TypeId)
    (hu : P.underlying dT = some (.slice elem)) (hs : (P.info? elem).map (·.size) = some 1)
    (hg : w.heap[g]? = some (.cells cur t (0, 0))) (hn : s.size ≤ dLen) (hfit : s.size ≤ cur.size) :
    (Builtin.copy_ #[dT, sT] ty #[.slice (some ⟨g, 0, none⟩) dLen dCap, .string s]).run P w =
      .ok (goInt s.size) (w.setRow g (byteCells s ++ cur.toList.drop s.size).toArray) := by
  have hlen : (byteCells s).length = s.size := by simp [byteCells]
  have hst := run_storeCells_at P g 0 t (byteCells s) 0 cur w hg (by rw [hlen]; omega) (fun v hv => by
    simp only [byteCells, List.mem_map] at hv
    obtain ⟨b, _, rfl⟩ := hv
    rfl)
  have hx : (s.extract 0 s.size) = s := by
    apply ByteArray.ext
    simp
  cases hq : P.info? elem with
  | none => simp [hq] at hs
  | some i =>
    have hi : i.size = 1 := by simpa [hq] using hs
    have hc : List.take s.size (byteCells s) = byteCells s := List.take_of_length_le (by omega)
    unfold byteCells at hc
    have hmin : Nat.min s.size dLen = s.size := Nat.min_eq_left hn
    simp only [Nat.zero_add, List.take_zero, List.nil_append, hlen] at hst
    simp [Builtin.copy_, run_underlying hu, Builtin.lenOf, Builtin.firstCells, sizeOf, typeInfo, hq, hi, hmin]
    rw [hc]
    unfold byteCells at hst
    simp [hst, byteCells]

theorem info5 : (Tryz.prog.info? 5).map (fun i => (i.zero, i.size, i.bytes)) = some (some (.int .u8 0), 1, 1) := by kernel_rfl
theorem info_parts {P : Program} {e : TypeId} {z : Value} {s b : Nat} (h : (P.info? e).map (fun i => (i.zero, i.size, i.bytes)) = some (some z, s, b)) : ∃ i, P.info? e = some i ∧ i.zero = some z ∧ i.size = s ∧ i.bytes = b := by
  cases hi : P.info? e with
  | none => rw [hi] at h; cases h
  | some i =>
    rw [hi] at h
    simp only [Option.map_some, Option.some.injEq, Prod.mk.injEq] at h
    exact ⟨i, rfl, h.1, h.2.1, h.2.2⟩

set_option maxHeartbeats 1600000 in
set_option maxRecDepth 100000 in
theorem grown_row (k : Value) (v : ByteArray) (th : Bool) (n : Nat) (w : World) (hn : n < 65536) (hv : v.size ≤ 65536) :
    Calls Tryz.prog 97 #[.agg #[k, .string v, .bool th], .int .i64 n] w fun e w' => e = .returned (.slice (some ⟨w.heap.size + 1, 0, none⟩) (max n v.size) (max n v.size)) ∧
      w'.heap[w.heap.size + 1]? = some (.cells (byteCells v ++ List.replicate (max n v.size - v.size) (Value.int .u8 0)).toArray 5 (0, 0)) ∧ Below w.heap.size w w' := by
  obtain ⟨i0, hi, hz0, hz1, hz2⟩ := info_parts info5
  go_enter Tryz.func97, Tryz.ntmps97
  go_wp2_with (refine wpList_make_full _ rfl _ _ 177 rfl w.heap.size 5 i0 (.int .u8 0) 1 Tryz.underlying177 hi hz0 hz1 .i64 .i64 _ _ (max n v.size) rfl rfl ?c1 ?c2 ?c3 ?c4 ?c5 ?_)
  case c1.inl => omega
  case c1.inr => omega
  case c2.inl => omega
  case c2.inr => omega
  case c3 => rw [hz2]; omega
  case c4 => unfold maxLen; omega
  case c5 => simp
  all_goals
    intro w1 hown hgrow
    have hA : Below w.heap.size w w1 := ((Below.refl w.heap.size w).alloc (Nat.le_refl _) (.cells #[k, .string v, .bool th] 82)).grown hgrow (by simp) (fun k h => by cases h)
    have hbox : w1.heap[w.heap.size]? = some (.cells #[k, .string v, .bool th] 82) := by
      refine (hgrow.block _ (by simp) (by simp)).trans ?_
      show (w.heap.push _)[w.heap.size]? = _
      exact Array.getElem?_push_size
    have hc1 : w1.cell? ⟨w.heap.size, 1, none⟩ = some (.string v) := by simp [World.cell?, hbox]
    obtain ⟨_, h0 | ⟨g, cap, cur, hv1, hlo, hcur, hle, _, hsz, htk⟩⟩ := hown
    · exact absurd h0.1 (by simp)
    simp only [Value.slice.injEq, Option.some.injEq, Addr.mk.injEq] at hv1
    obtain ⟨⟨rfl, _, _⟩, _, rfl⟩ := hv1
    have hcp : ∀ ty, (Builtin.copy_ #[177, 9] ty #[.slice (some ⟨w.heap.size + 1, 0, none⟩) (max n v.size) (max n v.size), .string v]).run Tryz.prog w1 = .ok (goInt v.size) (w1.setRow (w.heap.size + 1) (byteCells v ++ cur.toList.drop v.size).toArray) := fun ty =>
      run_copy_str w1 177 9 ty 5 (w.heap.size + 1) (max n v.size) (max n v.size) v cur 5 Tryz.underlying177 (by rw [hi]; simp [hz1]) hcur (by omega) (by rw [hsz]; omega)
    have hz : cur.toList.drop v.size = List.replicate (max n v.size - v.size) (Value.int .u8 0) := by
      have : cur.toList = List.replicate (max n v.size * 1) (Value.int .u8 0) := by
        rw [← toList_madeCells_one, ← List.take_of_length_le (l := cur.toList) (i := max n v.size * 1) (by simp; omega)]
        simpa using htk
      rw [this, List.drop_replicate, Nat.mul_one]
    go_wp2
    go_ret
    refine ⟨rfl, ?_, below_setRow hA (by omega) _⟩
    rw [setRow_heap w1 _ cur _ 5 (0, 0) hcur]

theorem grown_int (k : Value) (v : ByteArray) (th : Bool) (N : Int) (n : Nat) (w : World) (hN : N = n) (hn : n < 65536) (hv : v.size ≤ 65536) :
    Calls Tryz.prog 97 #[.agg #[k, .string v, .bool th], .int .i64 N] w fun e w' => e = .returned (.slice (some ⟨w.heap.size + 1, 0, none⟩) (max n v.size) (max n v.size)) ∧
      w'.heap[w.heap.size + 1]? = some (.cells (byteCells v ++ List.replicate (max n v.size - v.size) (Value.int .u8 0)).toArray 5 (0, 0)) ∧ Below w.heap.size w w' := by
  subst hN
  exact grown_row k v th n w hn hv

end Go.Proofs.YtehpbcpnmnhdbaaGreatDoor
