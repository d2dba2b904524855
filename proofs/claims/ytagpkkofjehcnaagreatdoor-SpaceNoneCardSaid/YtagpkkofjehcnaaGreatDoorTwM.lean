/-
  A list of entries: its copy.
-/
import Derived.Test.YtagpkkofjehcnaaGreatDoorTwL
set_option linter.all false
namespace Go.Proofs.YtagpkkofjehcnaaGreatDoor
open Go Go.RowKit

theorem Tryz.info129 : (Tryz.prog.info? 129).map (fun i => (i.zero, i.size, i.bytes)) = some (some (.agg #[.int .u64 0, .int .u64 0, .slice none 0 0]), 3, 40) := by kernel_rfl

/-- So many elements of three cells. -/
def upTo3 (f g h : Nat → Value) (k : Nat) : List Value := (List.range k).flatMap fun j => [f j, g j, h j]
theorem upTo3_succ (f g h : Nat → Value) (k : Nat) : upTo3 f g h k ++ [f k, g k, h k] = upTo3 f g h (k + 1) := by unfold upTo3; rw [List.range_succ, List.flatMap_append]; simp
theorem upTo3_congr (f g h h' : Nat → Value) (k : Nat) (hh : ∀ j, j < k → h j = h' j) : upTo3 f g h k = upTo3 f g h' k := by
  induction k with
  | zero => rfl
  | succ k ih => rw [← upTo3_succ, ← upTo3_succ, ih (fun j hj => hh j (by omega)), hh k (by omega)]

theorem Copy2At.low {w : World} {lo lo' v n x y sx sy} (h : Copy2At w lo v n x y sx sy) (hl : lo' ≤ lo) : Copy2At w lo' v n x y sx sy := by
  obtain ⟨g, hv, hlo, hlt, hc, hs, hs2⟩ := h
  exact ⟨g, hv, by omega, hlt, hc, hs, hs2⟩

theorem Copy2At.grown {w w' : World} {lo v n x y sx sy T} (h : Copy2At w lo v n x y sx sy) (hg : w.grownBy w' (some T)) (hT : T < lo) : Copy2At w' lo v n x y sx sy := by
  obtain ⟨g, hv, hlo, hlt, hc, hs, hs2⟩ := h
  have hk : ∀ o, w'.cell? ⟨g, o, none⟩ = w.cell? ⟨g, o, none⟩ := fun o => World.cell?_of_block (hg.block g hlt (by simp; omega))
  exact ⟨g, hv, hlo, Nat.lt_of_lt_of_le hlt hg.size, fun j hj => ⟨(hk _).trans (hc j hj).1, (hk _).trans (hc j hj).2⟩, (hk _).trans hs, (hk _).trans hs2⟩

theorem Copy2At.alloc {w : World} {lo v n x y sx sy} (h : Copy2At w lo v n x y sx sy) (o : Obj) : Copy2At (w.alloc o) lo v n x y sx sy :=
  h.below ((Below.refl _ _).alloc (Nat.le_refl _) _)

abbrev cpOf (w : World) (lo : Nat) (m : Nat) (f g : Nat → ByteArray) (G : Nat) : Prop := Copy2At w lo (.slice (some ⟨G, 0, none⟩) m (m + 1)) m (fun j => .string (f j)) (fun j => .string (g j)) (.string ⟨#[115, 112, 97, 114, 101]⟩) (.string ⟨#[]⟩)

set_option maxHeartbeats 3200000 in
set_option maxRecDepth 100000 in
theorem twinEntries_any (b off len cap : Nat) (ms seq : Nat → Int) (p : Nat → Option Addr) (l c m : Nat → Nat) (f g : Nat → Nat → ByteArray) (w : World) (hreach : len * 40 ≤ 140737488351232) (hb : b < w.heap.size)
    (hc : ∀ j, j < len → w.cell? ⟨b, off + j * 3, none⟩ = some (.int .u64 (ms j)) ∧ w.cell? ⟨b, off + j * 3 + 1, none⟩ = some (.int .u64 (seq j)) ∧ w.cell? ⟨b, off + j * 3 + 2, none⟩ = some (.slice (p j) (l j) (c j)))
    (hin : ∀ j, j < len → m j * 32 ≤ 140737488351232 ∧ Row2At w (.slice (p j) (l j) (c j)) (m j) (fun i => .string (f j i)) (fun i => .string (g j i))) :
    Calls Tryz.prog 47 #[.slice (some ⟨b, off, none⟩) len cap] w fun e w' =>
      ∃ G : Nat → Nat, e = .returned (.slice (some ⟨w.heap.size, 0, none⟩) len (len + 1)) ∧ w'.ownsRow w.heap.size 129 3 (.slice (some ⟨w.heap.size, 0, none⟩) (len + 1) (len + 1)) (len + 1) (upTo3 (fun j => .int .u64 (ms j)) (fun j => .int .u64 (seq j)) (fun j => .slice (some ⟨G j, 0, none⟩) (m j) (m j + 1)) len ++ [.int .u64 7777, .int .u64 0, .slice none 0 0]) ∧ (∀ j, j < len → cpOf w' (w.heap.size + 1) (m j) (f j) (g j) (G j)) ∧ Below w.heap.size w w' := by
  obtain ⟨i0, hi, hz0, hz1, hz2⟩ := info_parts Tryz.info129
  go_enter Tryz.func47, Tryz.ntmps47
  go_wp2_with (refine wpList_make_own _ rfl _ _ 34 rfl w.heap.size 129 i0 (.agg #[.int .u64 0, .int .u64 0, .slice none 0 0]) 3 Tryz.underlying34 hi hz0 hz1 .i64 .i64 _ (len + 1) rfl rfl ?c1 ?c2 ?c3 ?c4 ?_)
  case c1 => simp
  case c2 => rw [hz2]; omega
  case c3 => unfold maxLen; omega
  case c4 => exact Nat.le_refl _
  intro w1 hown hgrow
  have hB1 : Below w.heap.size w w1 := (Below.refl _ _).grown hgrow (Nat.le_refl _) (fun k h => by cases h)
  have hsz1 : w.heap.size + 1 ≤ w1.heap.size := by
    rcases hown.2 with ⟨h1, _⟩ | ⟨g', cap', cur', h1, h2, h3, _⟩
    · cases h1
    · cases h1
      have := (Array.getElem?_eq_some_iff.mp h3).1
      omega
  clear hgrow
  go_wp2
  go_loopw [3, 4] (fun t i wr => ∃ (k : Nat) (G : Nat → Nat), k ≤ len ∧ i = .int .i64 k ∧ t = .slice (some ⟨w.heap.size, 0, none⟩) k (len + 1) ∧ wr.ownsRow w.heap.size 129 3 (.slice (some ⟨w.heap.size, 0, none⟩) k (len + 1)) k (upTo3 (fun j => .int .u64 (ms j)) (fun j => .int .u64 (seq j)) (fun j => .slice (some ⟨G j, 0, none⟩) (m j) (m j + 1)) k) ∧ (∀ j, j < k → cpOf wr (w.heap.size + 1) (m j) (f j) (g j) (G j)) ∧ w.heap.size + 1 ≤ wr.heap.size ∧ Below w.heap.size w wr)
    (fun _ i _ => len - (intOf i).toNat)
  case atStart => exact ⟨0, fun _ => 0, Nat.zero_le _, rfl, rfl, hown, fun j hj => by omega, hsz1, hB1⟩
  case round =>
    obtain ⟨k, G, hk, rfl, rfl, hown, hcps, hsz, hnx⟩ := hrel
    have hn1 : ∀ (u v x : Value) (w' : World), (∀ (j : Nat) z, [u, v, x][j]? = some z → (w'.alloc (.cells #[u, v, x] 129)).cell? (Addr.add ⟨w'.heap.size, 0, none⟩ j) = some z) := fun u v x w' j z hj => by
      match j, hj with
      | 0, hj => simp at hj; subst hj; simp [Addr.add]
      | 1, hj => simp at hj; subst hj; simp [Addr.add]
      | 2, hj => simp at hj; subst hj; simp [Addr.add]
    by_cases hlt : k < len
    · have hcx : wr.cell? ⟨b, off + k * 3, none⟩ = some (.int .u64 (ms k)) := (hnx.cell (by exact hb)).trans (hc k hlt).1
      have hcy : wr.cell? ⟨b, off + k * 3 + 1, none⟩ = some (.int .u64 (seq k)) := (hnx.cell (by exact hb)).trans (hc k hlt).2.1
      have hcz : wr.cell? ⟨b, off + k * 3 + 2, none⟩ = some (.slice (p k) (l k) (c k)) := (hnx.cell (by exact hb)).trans (hc k hlt).2.2
      have hrow := (hin k hlt).2.below hnx
      go_wp2_with fail
      go_at_call 81
      refine (twinEntry_row (ms k) (seq k) _ (m k) (f k) (g k) _ (hin k hlt).1 hrow ⟨_, _, _, rfl⟩).mono ?_
      rintro e w3 ⟨t, rfl, hcp, hb3⟩
      obtain ⟨tg, rfl⟩ : ∃ tg, t = .slice (some ⟨tg, 0, none⟩) (m k) (m k + 1) := by
        obtain ⟨g, hg, _⟩ := hcp
        exact ⟨g, hg⟩
      have hown3 := hown.kept (grown_of_below hb3) (.inr (by simp [Value.ownBlock]))
      have hnx3 : Below w.heap.size w w3 := hnx.trans (hb3.mono hnx.size)
      have hcps3 : ∀ j, j < k → cpOf w3 (w.heap.size + 1) (m j) (f j) (g j) (G j) := fun j hj => (hcps j hj).below hb3
      have hcp3 : cpOf w3 (w.heap.size + 1) (m k) (f k) (g k) tg := hcp.low hsz
      have hsz3 : w.heap.size + 1 ≤ w3.heap.size := Nat.le_trans hsz hb3.size
      clear hown hnx hb3 hcx hcy hcz hcps hcp hrow hsz
      go_wp2_with (at_builtin; refine wpList_append_fits _ rfl (.tmp 15) (.tmp 21) 34 rfl w.heap.size 129 i0 3 Tryz.underlying34 hi hz1 w.heap.size k (len + 1) (upTo3 (fun j => .int .u64 (ms j)) (fun j => .int .u64 (seq j)) (fun j => .slice (some ⟨G j, 0, none⟩) (m j) (m j + 1)) k) rfl (hown3.alloc _) ⟨w3.heap.size, 0, none⟩ 1 1 [.int .u64 (ms k), .int .u64 (seq k), .slice (some ⟨tg, 0, none⟩) (m k) (m k + 1)] rfl rfl (hn1 _ _ _ _) (fun u hu => (by simp at hu; rcases hu with rfl | rfl | rfl <;> rfl)) (by omega) ?_)
      intro w2 hown2 hgrow2
      have hB2 : Below w.heap.size w w2 := (hnx3.alloc (by omega) _).grown hgrow2 (by simp; omega) (fun k h => by cases h; exact Nat.le_refl _)
      have hcps2 : ∀ j, j < k → cpOf w2 (w.heap.size + 1) (m j) (f j) (g j) (G j) := fun j hj => ((hcps3 j hj).alloc _).grown hgrow2 (by omega)
      have hcp2 : cpOf w2 (w.heap.size + 1) (m k) (f k) (g k) tg := (hcp3.alloc _).grown hgrow2 (by omega)
      have hsz2 : w.heap.size + 1 ≤ w2.heap.size := Nat.le_trans (by simp; omega) hgrow2.size
      have hG : upTo3 (fun j => .int .u64 (ms j)) (fun j => .int .u64 (seq j)) (fun j => .slice (some ⟨G j, 0, none⟩) (m j) (m j + 1)) k ++ [.int .u64 (ms k), .int .u64 (seq k), .slice (some ⟨tg, 0, none⟩) (m k) (m k + 1)] = upTo3 (fun j => .int .u64 (ms j)) (fun j => .int .u64 (seq j)) (fun j => .slice (some ⟨if j = k then tg else G j, 0, none⟩) (m j) (m j + 1)) (k + 1) := by
        rw [← upTo3_succ, upTo3_congr _ _ _ (fun j => .slice (some ⟨if j = k then tg else G j, 0, none⟩) (m j) (m j + 1)) k (fun j hj => by rw [if_neg (by omega)])]
        simp
      rw [hG] at hown2
      clear hown3 hgrow2 hnx3 hn1 hcps3 hcp3 hsz3 hG
      go_wp2
      go_roundw
      case rel => exact ⟨k + 1, fun j => if j = k then tg else G j, by omega, by go_num, rfl, hown2, fun j hj => by
        by_cases hjk : j = k
        · subst hjk; simpa using hcp2
        · simpa [hjk] using hcps2 j (by omega), hsz2, hB2⟩
      case measure => simp [intOf]; omega
    · have hkl : k = len := by omega
      subst hkl
      go_wp2_with (at_builtin; refine wpList_append_fits _ rfl (.tmp 23) (.tmp 26) 34 rfl w.heap.size 129 i0 3 Tryz.underlying34 hi hz1 w.heap.size k (k + 1) (upTo3 (fun j => .int .u64 (ms j)) (fun j => .int .u64 (seq j)) (fun j => .slice (some ⟨G j, 0, none⟩) (m j) (m j + 1)) k) rfl (hown.alloc _) ⟨wr.heap.size, 0, none⟩ 1 1 [.int .u64 7777, .int .u64 0, .slice none 0 0] rfl rfl (hn1 _ _ _ _) (fun u hu => (by simp at hu; rcases hu with rfl | rfl | rfl <;> rfl)) (by omega) ?_)
      intro w2 hown2 hgrow2
      have hB2 : Below w.heap.size w w2 := (hnx.alloc (by omega) _).grown hgrow2 (by simp; omega) (fun k h => by cases h; exact Nat.le_refl _)
      have hcps2 : ∀ j, j < k → cpOf w2 (w.heap.size + 1) (m j) (f j) (g j) (G j) := fun j hj => ((hcps j hj).alloc _).grown hgrow2 (by omega)
      clear hown hgrow2 hnx hn1 hcps
      go_wp2
      go_ret
      exact ⟨G, rfl, hown2, hcps2, hB2⟩

end Go.Proofs.YtagpkkofjehcnaaGreatDoor
