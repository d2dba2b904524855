/-
  stillroomlaw21.CollsQueue: the walk.
-/
import Derived.Test.YtgmljeeeomjooaaGreatDoorQv
import Derived.Test.YtgmljeeeomjooaaGreatDoorQw
set_option linter.all false
/-
  stillroomlaw21.CollsQueue: the walk.
-/
namespace Go.Q
open Go Go.RowKit

/-- append of a slice of one type to a slice of another. -/
theorem append_alike {P : Program} {t u ty e e' : TypeId} (ht : P.underlying t = some (.slice e)) (hu : P.underlying u = some (.slice e')) (s x : Value) (w : World) : (Builtin.append_ #[t, u] ty #[s, x]).run P w = (Builtin.append_ #[t, t] ty #[s, x]).run P w := by
  unfold Builtin.append_
  cases s <;> simp [run_underlying ht, run_underlying hu]
theorem append_two {P : Program} (w : World) {ops : Array Oper} {rest : List Oper} {o : Oper} {a : Act} {Q : Exit → Act → World → Prop} (hgd : o.guard = none) (s x : Operand) (t u : TypeId)
    (ho : o.op = .call { callee := .builtin .append, args := #[s, x], argTypes := #[t, u] })
    (base : Nat) (e e' : TypeId) (i : TypeInfo) (z : Value) (size bytes : Nat) (ht : P.underlying t = some (.slice e)) (hu : P.underlying u = some (.slice e')) (hi : P.info? e = some i) (hz : i.zero = some z)
    (hsize : i.size = size) (hby : i.bytes = bytes) (hzs : z.cells.size = size) (hsz : 0 < size)
    (v : Value) (n : Nat) (xs : List Value) (hown : w.ownsRow base e size v n xs)
    (ad : Addr) (m c : Nat) (news : List Value) (hl : news.length = m * size) (hnews : ∀ j u, news[j]? = some u → w.cell? (ad.add j) = some u) (h1 : ∀ u ∈ news, u.oneCell' = true)
    (hm : 0 < m) (h63 : n + m ≤ maxLen) (hbytes : (n + m) * bytes ≤ 140737488355328) (hbase : base ≤ w.heap.size) (hs : a.eval s = v) (hx : a.eval x = .slice (some ad) m c)
    (h : ∀ g cap w', w'.ownsRow base e size (.slice (some ⟨g, 0, none⟩) (n + m) cap) (n + m) (xs ++ news) → w.grownBy w' v.ownBlock → (v.ownBlock = some g ∨ g = w.heap.size) → g < w'.heap.size → wpList P ops Q rest (a.put o.dst (.slice (some ⟨g, 0, none⟩) (n + m) cap)) w') : wpList P ops Q (o :: rest) a w := by
  refine wpList_plain hgd fun K' hK' => ?_
  obtain ⟨g, cap, w', hr, h2, h3, h4, h5⟩ := run_append_lies (P := P) w t o.type base e i z size bytes ht hi hz hsize hby hzs hsz v n xs hown ad m c news hl hnews h1 hm h63 hbytes hbase w.heap.size rfl
  rw [← append_alike ht hu] at hr
  unfold Oper.wp execOp
  simp only [ho, resolve, invoke, builtin, Sem.run_bind, Sem.run_pure, Result.andThen_ok, List.map_toArray, List.map_cons, List.map_nil, hs, hx, hr]
  exact hK' _ _ (h g cap w' h2 h3 h4 h5)

/-- What is left after so many pops. -/
def popsLeft (front : Bool) (xs : List ByteArray) (k : Nat) : List ByteArray := if front then xs.drop k else xs.take (xs.length - k)
/-- What is popped then. -/
def popsNext (front : Bool) (n k : Nat) : Nat := if front then k else n - 1 - k
theorem popsLeft_zero (front : Bool) (xs : List ByteArray) : popsLeft front xs 0 = xs := by unfold popsLeft; cases front <;> simp
theorem popsLeft_len (front : Bool) (xs : List ByteArray) (k : Nat) (hk : k ≤ xs.length) : (popsLeft front xs k).length = xs.length - k := by unfold popsLeft; cases front <;> simp <;> omega
theorem popsLeft_rest (front : Bool) (xs : List ByteArray) (k : Nat) (hk : k < xs.length) : rest front (popsLeft front xs k) = popsLeft front xs (k + 1) := by
  unfold popsLeft rest
  cases front
  · simp only [Bool.false_eq_true, if_false, List.take_take, List.length_take]
    congr 1
    omega
  · simp only [if_true, List.drop_drop]
theorem popsLeft_get (front : Bool) (xs : List ByteArray) (k : Nat) (hk : k < xs.length) (h : popsNext front xs.length k < xs.length) : (popsLeft front xs k).getD (popAt front (popsLeft front xs k).length) ⟨#[]⟩ = xs[popsNext front xs.length k] := by
  rw [popsLeft_len front xs k (by omega)]
  unfold popsLeft popAt
  cases front
  · simp only [Bool.false_eq_true, if_false, popsNext, List.getD_eq_getElem?_getD, List.getElem?_take]
    rw [if_pos (by omega), show xs.length - k - 1 = xs.length - 1 - k by omega, List.getElem?_eq_getElem (by omega)]
    rfl
  · simp only [if_true, popsNext, List.getD_eq_getElem?_getD, List.getElem?_drop, Nat.add_zero]
    rw [List.getElem?_eq_getElem (by omega)]
    rfl
theorem popsLeft_items (front : Bool) (xs : List ByteArray) (k : Nat) : ∀ s ∈ popsLeft front xs k, s ∈ xs := fun s hs => by
  unfold popsLeft at hs
  split at hs
  · exact List.mem_of_mem_drop hs
  · exact List.mem_of_mem_take hs

end Go.Q
namespace Go.Proofs.YtgmljeeeomjooaaGreatDoor
open Go Go.RowKit Go.Q Go.Sort

theorem kept_below {w w' : World} (h : Below w.heap.size w w') : Ev.Kept w w' := ⟨h.size, h.os, h.output, h.block⟩

set_option maxHeartbeats 1600000 in
set_option maxRecDepth 100000 in
theorem filled_one (w : World) (h10 : 10 ≤ w.heap.size) : Calls Tryz.prog 4 #[.agg #[.int .i64 1, .slice none 0 0]] w fun e w' => ∃ p : Pl, e = .returned (.pointer (some ⟨p.s, 0, none⟩)) ∧ SpaceAt w' p 0 none ∧ w.heap.size ≤ p.t ∧ w.heap.size ≤ p.d ∧ Below w.heap.size w w' := by
  have hb1 : Below w.heap.size w (w.alloc (.cells #[.int .i64 1, .slice none 0 0] 27)) := (Below.refl _ w).alloc (Nat.le_refl _) _
  have hrow := Lib.hid (Row.new w 27 [.int .i64 1, .slice none 0 0])
  have hnew := spaceNew (w.alloc (.cells #[.int .i64 1, .slice none 0 0] 27)) (Nat.le_trans h10 hb1.size)
  go_enter Tryz.func4, Tryz.ntmps4
  go_wp2_with fail
  go_at_call 9
  refine hnew.mono ?_
  rintro e w1 ⟨p, rfl, hS, ht, hd, hb⟩
  have hr1 := row_below hrow.out hb (Nat.le_refl _)
  have c1 := hr1.cell (i := 1) rfl
  have hS' := Lib.hid hS
  clear hnew hr1 hS
  go_wp2_with fail
  refine wp_loop_rounds 1 ?_
  rw [rounds_succ]
  go_wp2_with fail
  go_ret
  exact ⟨p, rfl, hS'.out, Nat.le_trans hb1.size ht, Nat.le_trans hb1.size hd, b_call hb hb1⟩

set_option maxHeartbeats 3200000 in
set_option maxRecDepth 100000 in
/-- Nothing is asked: no text, or too many. -/
theorem queue_size (front : Bool) (a : Option Addr) (n cap : Nat) (hn : n = 0 ∨ 1000 < n) (W : World) (h10 : 10 ≤ W.heap.size) (hE : Errs W) : Calls Tryz.prog 3 #[.slice a n cap, .bool front] W fun e w' => e = .returned (.bool true) ∧ Ev.Kept W w' := by
  have hf := filled_one W h10
  go_enter Tryz.func3, Tryz.ntmps3
  go_wp2_with fail
  go_at_call 4
  refine hf.mono ?_
  rintro e w1 ⟨p, rfl, hS, ht, hd, hb⟩
  have hl := lives_row w1 (hE.below hb)
  have hn' : (n : Int) = 0 ∨ (1000 : Int) < (n : Int) := by omega
  clear hf hS
  rcases hn' with hn' | hn'
  all_goals
    go_wp2_with fail
    go_at_call 6
    refine hl.mono ?_
    rintro e w2 ⟨rfl, hk⟩
    go_wp2_with fail
    go_ret
    exact ⟨rfl, (kept_below hb).trans hk⟩

end Go.Proofs.YtgmljeeeomjooaaGreatDoor

/-
  stillroomlaw21.CollsQueue: the walk of its pushes and pops.
-/
namespace Go.Proofs.YtgmljeeeomjooaaGreatDoor
open Go Go.RowKit Go.Q Go.Sort

set_option maxHeartbeats 6400000 in
set_option maxRecDepth 100000 in
theorem queue_long (front : Bool) (v : Value) (xs : List ByteArray) (hpos : 0 < xs.length) (hm : xs.length ≤ 1000) (hs : ∃ s ∈ xs, 65536 < s.size) (W : World) (hv : Slice W v xs) (h10 : 10 ≤ W.heap.size) (hE : Errs W) : Calls Tryz.prog 3 #[v, .bool front] W fun e w' => e = .returned (.bool true) ∧ Ev.Kept W w' := by
  have hf := filled_one W h10
  have HV := Lib.hid hv
  obtain ⟨sp, cp, rfl⟩ := hv.len
  have hp1 : ¬ (xs.length : Int) = 0 := by omega
  have hxne : ¬ xs = [] := fun e => by rw [e] at hpos; exact absurd hpos (by simp)
  have hp1n : ¬ xs.length = 0 := by omega
  have hb0 : ((xs.length : Int) == 0) = false := by simp [hxne]
  have hb1 : decide ((1000 : Int) < (xs.length : Int)) = false := decide_eq_false (by omega)
  have hp2 : (xs.length : Int) ≤ 1000 := by omega
  clear hv
  go_enter Tryz.func3, Tryz.ntmps3
  go_wp2_with fail
  go_at_call 4
  refine hf.mono ?_
  rintro e w1 ⟨p, rfl, hS, ht, hd, hb⟩
  have hlong := long_yes _ xs hm hs w1 (HV.out.below hb (Nat.le_refl _))
  have hl := lives_row w1 (hE.below hb)
  clear hf hS
  go_wp2_with fail
  go_at_call 5
  refine hlong.mono ?_
  rintro e w1' ⟨rfl, rfl⟩
  go_wp2_with fail
  go_at_call 6
  refine hl.mono ?_
  rintro e w2 ⟨rfl, hk⟩
  go_wp2_with fail
  go_ret
  exact ⟨rfl, (kept_below hb).trans hk⟩

set_option maxHeartbeats 6400000 in
set_option maxRecDepth 100000 in
theorem queue_main_false (g off cp : Nat) (xs : List ByteArray) (hpos : 0 < xs.length) (hm : xs.length ≤ 1000) (hitems : ∀ s ∈ xs, s.size ≤ 65536) (W : World) (hv : Slice W (.slice (some ⟨g, off, none⟩) xs.length cp) xs) (hgl : g < W.heap.size) (hcells : ∀ k (h : k < xs.length), W.cell? ⟨g, off + k, none⟩ = some (.string xs[k])) (hG : Glob W) (hE : Errs W) :
    Calls Tryz.prog 3 #[.slice (some ⟨g, off, none⟩) xs.length cp, .bool false] W fun e w' => e = .returned (.bool true) ∧ Ev.Kept W w' := by
  obtain ⟨i0, hi, hz0, hz1, hz2⟩ := info_parts info9
  have hf := filled_one W hG.size
  have HV := Lib.hid hv
  have HC := Lib.hid hcells
  have HG := Lib.hid hG
  have HE := Lib.hid hE
  have hp1 : ¬ (xs.length : Int) = 0 := by omega
  have hxne : ¬ xs = [] := fun e => by rw [e] at hpos; exact absurd hpos (by simp)
  have hp1n : ¬ xs.length = 0 := by omega
  have hb0 : ((xs.length : Int) == 0) = false := by simp [hxne]
  have hb1 : decide ((1000 : Int) < (xs.length : Int)) = false := decide_eq_false (by omega)
  have hp2 : (xs.length : Int) ≤ 1000 := by omega
  have hp3 : (0 : Int) < (xs.length : Int) := by omega
  clear hv hcells hG hE
  go_enter Tryz.func3, Tryz.ntmps3
  go_wp2_with fail
  go_at_call 4
  refine hf.mono ?_
  rintro e w1 ⟨p, rfl, hS, ht, hd, hb⟩
  have hlong := long_no _ xs hm hitems w1 (HV.out.below hb (Nat.le_refl _))
  have H := Lib.hid hS
  clear hf hS
  go_wp2_with fail
  go_at_call 5
  refine hlong.mono ?_
  rintro e w1' ⟨rfl, rfl⟩
  have hlit : (w1.alloc (.cells #[.string ⟨#[114, 112, 117, 115, 104]⟩, .string ⟨#[108]⟩] 9)).ownsRow w1.heap.size 9 1 (.slice (some ⟨w1.heap.size, 0, none⟩) 2 2) 2 [.string ⟨#[114, 112, 117, 115, 104]⟩, .string ⟨#[108]⟩] := by
    have h := World.ownsRow_lit (base := w1.heap.size) (e := 9) (size := 1) w1 #[.string ⟨#[114, 112, 117, 115, 104]⟩, .string ⟨#[108]⟩] 2 (Nat.le_refl _) (by unfold maxLen; omega) (by simp)
    simpa using h
  have OWN := Lib.hid hlit
  have hbA : Below W.heap.size W (w1.alloc (.cells #[.string ⟨#[114, 112, 117, 115, 104]⟩, .string ⟨#[108]⟩] 9)) := hb.alloc hb.size _
  have N1 : (strs xs).length = xs.length * 1 := by simp [strs]
  have N2 : ∀ j u, (strs xs)[j]? = some u → (w1.alloc (.cells #[.string ⟨#[114, 112, 117, 115, 104]⟩, .string ⟨#[108]⟩] 9)).cell? ((⟨g, off, none⟩ : Addr).add j) = some u := fun j u hj => by
    have hj' : j < xs.length := by have := (List.getElem?_eq_some_iff.1 hj).1; simpa [strs] using this
    have h2 := (hbA.cell (p := ⟨g, off + j, none⟩) hgl).trans (HC.out j hj')
    simp only [strs, List.getElem?_map, List.getElem?_eq_getElem hj', Option.map_some, Option.some.injEq] at hj
    rw [← hj, ← h2, Addr.add_lit]
  have N3 : ∀ u ∈ strs xs, u.oneCell' = true := fun u hu => by
    simp only [strs, List.mem_map] at hu
    obtain ⟨x, _, rfl⟩ := hu
    rfl
  have N2' := Lib.hid N2
  have hbase : w1.heap.size ≤ (w1.alloc (.cells #[.string ⟨#[114, 112, 117, 115, 104]⟩, .string ⟨#[108]⟩] 9)).heap.size := by simp
  clear hlong hlit N2
  go_wp2_with (at_builtin; go_loud (refine append_two _ rfl (.tmp 31) (.tmp 32) 42 22 rfl w1.heap.size 9 9 i0 (.string ⟨#[]⟩) 1 16 Tryz.underlying42 Tryz.underlying22 hi hz0 hz1 hz2 rfl (by decide) _ 2 _ OWN.out ⟨g, off, none⟩ xs.length cp (strs xs) N1 N2'.out N3 hpos (by unfold maxLen; omega) (by omega) hbase rfl rfl ?_); intro g' cap' w2 hown hgrow hat hlt; rw [Nat.add_comm 2 xs.length])
  have hown' : w2.ownsRow w1.heap.size 9 1 (.slice (some ⟨g', 0, none⟩) (rpushT :: keyL :: xs).length cap') (rpushT :: keyL :: xs).length (strs (rpushT :: keyL :: xs)) := by
    have e2 : 2 + xs.length = (rpushT :: keyL :: xs).length := by simp; omega
    rw [← e2]
    exact hown
  obtain ⟨_, hgB, _, r, _, hcapr⟩ := strs_row hown'
  have hcap : xs.length + 2 ≤ cap' := by rw [hcapr]; simp
  have hC2 : Slice w2 (.slice (some ⟨g', 0, none⟩) (xs.length + 2) cap') (rpushT :: keyL :: xs) := Slice.of_owns hown'
  have hb12 : Below w1.heap.size w1 w2 := ((Below.refl _ w1).alloc (Nat.le_refl _) (.cells #[.string ⟨#[114, 112, 117, 115, 104]⟩, .string ⟨#[108]⟩] 9)).grown hgrow (by simp) (fun k e => by cases e; exact Nat.le_refl _)
  have hbw2 : Below W.heap.size W w2 := hb.trans (hb12.mono hb.size)
  have htl := H.out.dict.tab.lt
  have hdl := H.out.dict.cell.lt
  have hdo := do_push g' 0 cap' p xs hpos hm hcap hitems w2 (HG.out.below hbw2 HG.out.size) (H.out.below hb12 (Nat.le_refl _)) ⟨by omega, by omega⟩ hC2
  clear hown hown' hgrow hC2 N1 N2' N3 OWN hat
  go_at_call 7
  refine hdo.mono ?_
  rintro e w3 ⟨u1, n1, c1, u2, n2, c2, rfl, m, k, l, hS3, hK3, hL3, ho3⟩
  have hbw3 : Below W.heap.size W w3 := hbw2.trans (ho3.below hbw2.size (fun x hx e => by rcases e with e | e <;> omega))
  have hb34 := (Below.refl _ w3).alloc (Nat.le_refl _) (.cells #[.int .u8 3, .string ⟨#[]⟩, .int .i64 (xs.length : Int), .slice none 0 0, .slice u1 n1 c1, .slice u2 n2 c2] 36)
  have hR0 := Lib.hid (Remains.below (show Remains w3 p m k xs from .inr ⟨hpos, hS3, l, hK3, hL3⟩) hb34)
  have hlow := hK3.low
  have hbw4 : Below W.heap.size W (w3.alloc (.cells #[.int .u8 3, .string ⟨#[]⟩, .int .i64 (xs.length : Int), .slice none 0 0, .slice u1 n1 c1, .slice u2 n2 c2] 36)) := hbw3.alloc hbw3.size _
  clear hS3 hK3 hL3 hdo hb34
  go_wp2_with fail
  generalize hW4 : w3.alloc (.cells #[.int .u8 3, .string ⟨#[]⟩, .int .i64 (xs.length : Int), .slice none 0 0, .slice u1 n1 c1, .slice u2 n2 c2] 36) = w4 at *
  clear hW4
  go_loopw [8] (fun i wr => ∃ j : Nat, j ≤ xs.length ∧ i = .int .i64 j ∧ Below W.heap.size W wr ∧ Remains wr p m k (popsLeft false xs j)) (fun i _ => xs.length - (intOf i).toNat)
  case atStart => exact ⟨0, Nat.zero_le _, rfl, hbw4, by rw [popsLeft_zero]; exact hR0.out⟩
  case round =>
    obtain ⟨j, hj, rfl, hbr, hR⟩ := hrel
    have hll := popsLeft_len false xs j hj
    rcases Nat.lt_or_ge j xs.length with hlt | hge
    · have hq : popsNext false xs.length j < xs.length := by unfold popsNext; simp; omega
      have hlti : (j : Int) < (xs.length : Int) := by omega
      obtain ⟨hR1, _⟩ | ⟨hRp, hS, l', hK, hL⟩ := hR
      · rw [hR1] at hll
        simp at hll
        omega
      · obtain ⟨q, hqd⟩ : ∃ q, q = xs.length - 1 - j := ⟨_, rfl⟩
        have hqi : (xs.length : Int) - 1 - (j : Int) = (q : Int) := by omega
        have hql : q < xs.length := by omega
        have hqli : (q : Int) < (xs.length : Int) := by omega
        have hnext : xs[popsNext false xs.length j] = xs[q] := by simp only [popsNext]; subst hqd; rfl
        clear hqd
        have hcell : wr.cell? ⟨g, off + q, none⟩ = some (.string xs[q]) := (hbr.cell (p := ⟨g, off + q, none⟩) hgl).trans (HC.out q hql)
        have hcellj : wr.cell? ⟨g, off + j, none⟩ = some (.string xs[j]) := (hbr.cell (p := ⟨g, off + j, none⟩) hgl).trans (HC.out j hlt)
        have hgr : g < wr.heap.size := Nat.lt_of_lt_of_le hgl hbr.size
        have hbA : Below wr.heap.size wr (wr.alloc (.cells #[.string ⟨#[114, 112, 111, 112]⟩, .string ⟨#[108]⟩] 9)) := (Below.refl _ wr).alloc (Nat.le_refl _) _
        have hbAW : Below W.heap.size W (wr.alloc (.cells #[.string ⟨#[114, 112, 111, 112]⟩, .string ⟨#[108]⟩] 9)) := hbr.alloc hbr.size _
        have hC5 : Slice (wr.alloc (.cells #[.string ⟨#[114, 112, 111, 112]⟩, .string ⟨#[108]⟩] 9)) (.slice (some ⟨wr.heap.size, 0, none⟩) 2 2) [popT false, keyL] := by
          have h := World.ownsRow_lit (base := wr.heap.size) (e := 9) (size := 1) wr #[.string ⟨#[114, 112, 111, 112]⟩, .string ⟨#[108]⟩] 2 (Nat.le_refl _) (by unfold maxLen; omega) (by simp)
          exact Slice.of_owns (xs := [popT false, keyL]) h
        have hml := hK.one.lt
        have hkl := hK.kept.lt
        have hdl' := hS.dict.cell.lt
        have hdo := do_pop_false wr.heap.size 0 2 p m k l' (popsLeft false xs j) hRp (by omega) (fun s hs => hitems s (popsLeft_items false xs j s hs)) _ (HG.out.below hbAW HG.out.size) (hS.below hbA (Nat.le_refl _)) (hK.below hbA (Nat.le_refl _)) (hL.below hbA (Nat.le_refl _)) ⟨by omega, by omega, by omega⟩ hC5
        rw [popsLeft_get false xs j hlt hq, popsLeft_rest false xs j hlt] at hdo
        rw [hnext] at hdo
        clear hS hK hL hC5 hnext
        go_wp2_with fail
        go_at_call 7
        refine hdo.mono ?_
        rintro e w6 ⟨u1, n1, c1, u2, n2, c2, rfl, hR6, ho6⟩
        have hbw6 : Below W.heap.size W w6 := hbAW.trans (ho6.below hbAW.size (fun x hx e => by rcases e with e | e | e <;> omega))
        have hR6' := Lib.hid hR6
        clear hdo hR6
        go_wp2_with fail
        go_roundw
        case rel => exact ⟨j + 1, hlt, rfl, hbw6.alloc hbw6.size _, hR6'.out.below ((Below.refl _ w6).alloc (Nat.le_refl _) _)⟩
        case measure => simp [intOf] <;> omega
    · obtain rfl : j = xs.length := by omega
      have hS : SpaceAt wr p 0 (some m) := by
        rcases hR with ⟨_, h⟩ | ⟨h, _⟩
        · exact h
        · omega
      have hlen := spaceLen p 0 (some m) wr hS
      have hlive := lives_row wr (HE.out.below hbr)
      clear hR hS
      go_wp2_with fail
      go_at_call 8
      refine hlen.mono ?_
      rintro e w' ⟨rfl, rfl⟩
      go_wp2_with fail
      go_at_call 6
      refine hlive.mono ?_
      rintro e w' ⟨rfl, hk⟩
      go_wp2_with fail
      go_ret
      exact ⟨rfl, (kept_below hbr).trans hk⟩

set_option maxHeartbeats 6400000 in
set_option maxRecDepth 100000 in
theorem queue_main_true (g off cp : Nat) (xs : List ByteArray) (hpos : 0 < xs.length) (hm : xs.length ≤ 1000) (hitems : ∀ s ∈ xs, s.size ≤ 65536) (W : World) (hv : Slice W (.slice (some ⟨g, off, none⟩) xs.length cp) xs) (hgl : g < W.heap.size) (hcells : ∀ k (h : k < xs.length), W.cell? ⟨g, off + k, none⟩ = some (.string xs[k])) (hG : Glob W) (hE : Errs W) :
    Calls Tryz.prog 3 #[.slice (some ⟨g, off, none⟩) xs.length cp, .bool true] W fun e w' => e = .returned (.bool true) ∧ Ev.Kept W w' := by
  obtain ⟨i0, hi, hz0, hz1, hz2⟩ := info_parts info9
  have hf := filled_one W hG.size
  have HV := Lib.hid hv
  have HC := Lib.hid hcells
  have HG := Lib.hid hG
  have HE := Lib.hid hE
  have hp1 : ¬ (xs.length : Int) = 0 := by omega
  have hxne : ¬ xs = [] := fun e => by rw [e] at hpos; exact absurd hpos (by simp)
  have hp1n : ¬ xs.length = 0 := by omega
  have hb0 : ((xs.length : Int) == 0) = false := by simp [hxne]
  have hb1 : decide ((1000 : Int) < (xs.length : Int)) = false := decide_eq_false (by omega)
  have hp2 : (xs.length : Int) ≤ 1000 := by omega
  have hp3 : (0 : Int) < (xs.length : Int) := by omega
  clear hv hcells hG hE
  go_enter Tryz.func3, Tryz.ntmps3
  go_wp2_with fail
  go_at_call 4
  refine hf.mono ?_
  rintro e w1 ⟨p, rfl, hS, ht, hd, hb⟩
  have hlong := long_no _ xs hm hitems w1 (HV.out.below hb (Nat.le_refl _))
  have H := Lib.hid hS
  clear hf hS
  go_wp2_with fail
  go_at_call 5
  refine hlong.mono ?_
  rintro e w1' ⟨rfl, rfl⟩
  have hlit : (w1.alloc (.cells #[.string ⟨#[114, 112, 117, 115, 104]⟩, .string ⟨#[108]⟩] 9)).ownsRow w1.heap.size 9 1 (.slice (some ⟨w1.heap.size, 0, none⟩) 2 2) 2 [.string ⟨#[114, 112, 117, 115, 104]⟩, .string ⟨#[108]⟩] := by
    have h := World.ownsRow_lit (base := w1.heap.size) (e := 9) (size := 1) w1 #[.string ⟨#[114, 112, 117, 115, 104]⟩, .string ⟨#[108]⟩] 2 (Nat.le_refl _) (by unfold maxLen; omega) (by simp)
    simpa using h
  have OWN := Lib.hid hlit
  have hbA : Below W.heap.size W (w1.alloc (.cells #[.string ⟨#[114, 112, 117, 115, 104]⟩, .string ⟨#[108]⟩] 9)) := hb.alloc hb.size _
  have N1 : (strs xs).length = xs.length * 1 := by simp [strs]
  have N2 : ∀ j u, (strs xs)[j]? = some u → (w1.alloc (.cells #[.string ⟨#[114, 112, 117, 115, 104]⟩, .string ⟨#[108]⟩] 9)).cell? ((⟨g, off, none⟩ : Addr).add j) = some u := fun j u hj => by
    have hj' : j < xs.length := by have := (List.getElem?_eq_some_iff.1 hj).1; simpa [strs] using this
    have h2 := (hbA.cell (p := ⟨g, off + j, none⟩) hgl).trans (HC.out j hj')
    simp only [strs, List.getElem?_map, List.getElem?_eq_getElem hj', Option.map_some, Option.some.injEq] at hj
    rw [← hj, ← h2, Addr.add_lit]
  have N3 : ∀ u ∈ strs xs, u.oneCell' = true := fun u hu => by
    simp only [strs, List.mem_map] at hu
    obtain ⟨x, _, rfl⟩ := hu
    rfl
  have N2' := Lib.hid N2
  have hbase : w1.heap.size ≤ (w1.alloc (.cells #[.string ⟨#[114, 112, 117, 115, 104]⟩, .string ⟨#[108]⟩] 9)).heap.size := by simp
  clear hlong hlit N2
  go_wp2_with (at_builtin; go_loud (refine append_two _ rfl (.tmp 31) (.tmp 32) 42 22 rfl w1.heap.size 9 9 i0 (.string ⟨#[]⟩) 1 16 Tryz.underlying42 Tryz.underlying22 hi hz0 hz1 hz2 rfl (by decide) _ 2 _ OWN.out ⟨g, off, none⟩ xs.length cp (strs xs) N1 N2'.out N3 hpos (by unfold maxLen; omega) (by omega) hbase rfl rfl ?_); intro g' cap' w2 hown hgrow hat hlt; rw [Nat.add_comm 2 xs.length])
  have hown' : w2.ownsRow w1.heap.size 9 1 (.slice (some ⟨g', 0, none⟩) (rpushT :: keyL :: xs).length cap') (rpushT :: keyL :: xs).length (strs (rpushT :: keyL :: xs)) := by
    have e2 : 2 + xs.length = (rpushT :: keyL :: xs).length := by simp; omega
    rw [← e2]
    exact hown
  obtain ⟨_, hgB, _, r, _, hcapr⟩ := strs_row hown'
  have hcap : xs.length + 2 ≤ cap' := by rw [hcapr]; simp
  have hC2 : Slice w2 (.slice (some ⟨g', 0, none⟩) (xs.length + 2) cap') (rpushT :: keyL :: xs) := Slice.of_owns hown'
  have hb12 : Below w1.heap.size w1 w2 := ((Below.refl _ w1).alloc (Nat.le_refl _) (.cells #[.string ⟨#[114, 112, 117, 115, 104]⟩, .string ⟨#[108]⟩] 9)).grown hgrow (by simp) (fun k e => by cases e; exact Nat.le_refl _)
  have hbw2 : Below W.heap.size W w2 := hb.trans (hb12.mono hb.size)
  have htl := H.out.dict.tab.lt
  have hdl := H.out.dict.cell.lt
  have hdo := do_push g' 0 cap' p xs hpos hm hcap hitems w2 (HG.out.below hbw2 HG.out.size) (H.out.below hb12 (Nat.le_refl _)) ⟨by omega, by omega⟩ hC2
  clear hown hown' hgrow hC2 N1 N2' N3 OWN hat
  go_at_call 7
  refine hdo.mono ?_
  rintro e w3 ⟨u1, n1, c1, u2, n2, c2, rfl, m, k, l, hS3, hK3, hL3, ho3⟩
  have hbw3 : Below W.heap.size W w3 := hbw2.trans (ho3.below hbw2.size (fun x hx e => by rcases e with e | e <;> omega))
  have hb34 := (Below.refl _ w3).alloc (Nat.le_refl _) (.cells #[.int .u8 3, .string ⟨#[]⟩, .int .i64 (xs.length : Int), .slice none 0 0, .slice u1 n1 c1, .slice u2 n2 c2] 36)
  have hR0 := Lib.hid (Remains.below (show Remains w3 p m k xs from .inr ⟨hpos, hS3, l, hK3, hL3⟩) hb34)
  have hlow := hK3.low
  have hbw4 : Below W.heap.size W (w3.alloc (.cells #[.int .u8 3, .string ⟨#[]⟩, .int .i64 (xs.length : Int), .slice none 0 0, .slice u1 n1 c1, .slice u2 n2 c2] 36)) := hbw3.alloc hbw3.size _
  clear hS3 hK3 hL3 hdo hb34
  go_wp2_with fail
  generalize hW4 : w3.alloc (.cells #[.int .u8 3, .string ⟨#[]⟩, .int .i64 (xs.length : Int), .slice none 0 0, .slice u1 n1 c1, .slice u2 n2 c2] 36) = w4 at *
  clear hW4
  go_loopw [8] (fun i wr => ∃ j : Nat, j ≤ xs.length ∧ i = .int .i64 j ∧ Below W.heap.size W wr ∧ Remains wr p m k (popsLeft true xs j)) (fun i _ => xs.length - (intOf i).toNat)
  case atStart => exact ⟨0, Nat.zero_le _, rfl, hbw4, by rw [popsLeft_zero]; exact hR0.out⟩
  case round =>
    obtain ⟨j, hj, rfl, hbr, hR⟩ := hrel
    have hll := popsLeft_len true xs j hj
    rcases Nat.lt_or_ge j xs.length with hlt | hge
    · have hq : popsNext true xs.length j < xs.length := by unfold popsNext; simp; omega
      have hlti : (j : Int) < (xs.length : Int) := by omega
      obtain ⟨hR1, _⟩ | ⟨hRp, hS, l', hK, hL⟩ := hR
      · rw [hR1] at hll
        simp at hll
        omega
      · obtain ⟨q, hqd⟩ : ∃ q, q = xs.length - 1 - j := ⟨_, rfl⟩
        have hqi : (xs.length : Int) - 1 - (j : Int) = (q : Int) := by omega
        have hql : q < xs.length := by omega
        have hqli : (q : Int) < (xs.length : Int) := by omega
        have hnext : xs[popsNext true xs.length j] = xs[j] := by simp only [popsNext]; rfl
        clear hqd
        have hcell : wr.cell? ⟨g, off + q, none⟩ = some (.string xs[q]) := (hbr.cell (p := ⟨g, off + q, none⟩) hgl).trans (HC.out q hql)
        have hcellj : wr.cell? ⟨g, off + j, none⟩ = some (.string xs[j]) := (hbr.cell (p := ⟨g, off + j, none⟩) hgl).trans (HC.out j hlt)
        have hgr : g < wr.heap.size := Nat.lt_of_lt_of_le hgl hbr.size
        have hbA : Below wr.heap.size wr (wr.alloc (.cells #[.string ⟨#[108, 112, 111, 112]⟩, .string ⟨#[108]⟩] 9)) := (Below.refl _ wr).alloc (Nat.le_refl _) _
        have hbAW : Below W.heap.size W (wr.alloc (.cells #[.string ⟨#[108, 112, 111, 112]⟩, .string ⟨#[108]⟩] 9)) := hbr.alloc hbr.size _
        have hC5 : Slice (wr.alloc (.cells #[.string ⟨#[108, 112, 111, 112]⟩, .string ⟨#[108]⟩] 9)) (.slice (some ⟨wr.heap.size, 0, none⟩) 2 2) [popT true, keyL] := by
          have h := World.ownsRow_lit (base := wr.heap.size) (e := 9) (size := 1) wr #[.string ⟨#[108, 112, 111, 112]⟩, .string ⟨#[108]⟩] 2 (Nat.le_refl _) (by unfold maxLen; omega) (by simp)
          exact Slice.of_owns (xs := [popT true, keyL]) h
        have hml := hK.one.lt
        have hkl := hK.kept.lt
        have hdl' := hS.dict.cell.lt
        have hdo := do_pop_true wr.heap.size 0 2 p m k l' (popsLeft true xs j) hRp (by omega) (fun s hs => hitems s (popsLeft_items true xs j s hs)) _ (HG.out.below hbAW HG.out.size) (hS.below hbA (Nat.le_refl _)) (hK.below hbA (Nat.le_refl _)) (hL.below hbA (Nat.le_refl _)) ⟨by omega, by omega, by omega⟩ hC5
        rw [popsLeft_get true xs j hlt hq, popsLeft_rest true xs j hlt] at hdo
        rw [hnext] at hdo
        clear hS hK hL hC5 hnext
        go_wp2_with fail
        go_at_call 7
        refine hdo.mono ?_
        rintro e w6 ⟨u1, n1, c1, u2, n2, c2, rfl, hR6, ho6⟩
        have hbw6 : Below W.heap.size W w6 := hbAW.trans (ho6.below hbAW.size (fun x hx e => by rcases e with e | e | e <;> omega))
        have hR6' := Lib.hid hR6
        clear hdo hR6
        go_wp2_with fail
        go_roundw
        case rel => exact ⟨j + 1, hlt, rfl, hbw6.alloc hbw6.size _, hR6'.out.below ((Below.refl _ w6).alloc (Nat.le_refl _) _)⟩
        case measure => simp [intOf] <;> omega
    · obtain rfl : j = xs.length := by omega
      have hS : SpaceAt wr p 0 (some m) := by
        rcases hR with ⟨_, h⟩ | ⟨h, _⟩
        · exact h
        · omega
      have hlen := spaceLen p 0 (some m) wr hS
      have hlive := lives_row wr (HE.out.below hbr)
      clear hR hS
      go_wp2_with fail
      go_at_call 8
      refine hlen.mono ?_
      rintro e w' ⟨rfl, rfl⟩
      go_wp2_with fail
      go_at_call 6
      refine hlive.mono ?_
      rintro e w' ⟨rfl, hk⟩
      go_wp2_with fail
      go_ret
      exact ⟨rfl, (kept_below hbr).trans hk⟩

theorem queue_any (front : Bool) (a : Option Addr) (n cap : Nat) (W : World) (hG : Glob W) (hE : Errs W)
    (hread : 0 < n → ∃ (g off : Nat) (xs : List ByteArray), a = some ⟨g, off, none⟩ ∧ xs.length = n ∧ g < W.heap.size ∧ ∀ k (hk : k < xs.length), W.cell? ⟨g, off + k, none⟩ = some (.string xs[k])) :
    Calls Tryz.prog 3 #[.slice a n cap, .bool front] W fun e w' => e = .returned (.bool true) ∧ Ev.Kept W w' := by
  by_cases hn : n = 0 ∨ 1000 < n
  · exact queue_size front a n cap hn W hG.size hE
  · obtain ⟨g, off, xs, rfl, rfl, hgl, hc⟩ := hread (by omega)
    have hv : Slice W (.slice (some ⟨g, off, none⟩) xs.length cap) xs := .inr ⟨g, off, cap, rfl, hgl, hc⟩
    by_cases hs : ∃ s ∈ xs, 65536 < s.size
    · exact queue_long front _ xs (by omega) (by omega) hs W hv hG.size hE
    · have hs' : ∀ s ∈ xs, s.size ≤ 65536 := fun s h => by
        rcases Nat.lt_or_ge 65536 s.size with h1 | h1
        · exact absurd ⟨s, h, h1⟩ hs
        · exact h1
      cases front
      · exact queue_main_false g off cap xs (by omega) (by omega) hs' W hv hgl hc hG hE
      · exact queue_main_true g off cap xs (by omega) (by omega) hs' W hv hgl hc hG hE

end Go.Proofs.YtgmljeeeomjooaaGreatDoor
