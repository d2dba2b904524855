/-
  quick: nodes that are linked; New, Len, place, link, unlink, each: contracts.
-/
import Derived.Test.YtgmljeeeomjooaaGreatDoorQf
import Derived.RegionTactic
import Derived.RangeFuncNested
import Derived.ChangeAlike
set_option linter.all false
/-
  quick: nodes that are linked; New, Len, place, link, unlink, each: contracts.
-/
namespace Go.Q
open Go Go.RowKit

/-- A pointer to a block, or nil. -/
def optP (o : Option Nat) : Value := .pointer (o.map fun k => ⟨k, 0, none⟩)
/-- The node ahead of a place. -/
def aheadOf (ks : List (Nat × Nat)) : Nat → Option Nat
  | 0 => none
  | i + 1 => ks[i]?.map (·.1)
/-- The node at a place. -/
def nodeOf (ks : List (Nat × Nat)) (i : Nat) : Option Nat := ks[i]?.map (·.1)

/-- Nodes (each with its pack's block) that are linked, and the head of them. -/
structure Links (w : World) (q : Nat) (ks : List (Nat × Nat)) (n : Nat) : Prop where
  cell : Row w q 390 [.bool true, optP (nodeOf ks 0), optP (aheadOf ks ks.length), .int .i64 (n : Int)]
  node : ∀ i k, ks[i]? = some k → Row w k.1 395 [.pointer (some ⟨k.2, 0, none⟩), optP (aheadOf ks i), optP (nodeOf ks (i + 1))]
  nodup : (ks.map (·.1)).Nodup

theorem Links.only {S : Nat → Prop} {w w' : World} {q : Nat} {ks : List (Nat × Nat)} {n : Nat} (h : Links w q ks n) (ho : Only S w w') (hs : ∀ k cs t, S k → Row w k t cs → t ≠ 390 ∧ t ≠ 395) : Links w' q ks n :=
  ⟨h.cell.only ho fun e => (hs q _ _ e h.cell).1 rfl, fun i k hk => (h.node i k hk).only ho fun e => (hs k.1 _ _ e (h.node i k hk)).2 rfl, h.nodup⟩
theorem Links.heap {w w' : World} {q : Nat} {ks : List (Nat × Nat)} {n : Nat} (h : Links w q ks n) (e : w'.heap = w.heap) : Links w' q ks n :=
  ⟨by have := h.cell; unfold Row at this ⊢; rw [e]; exact this, fun i k hk => by have := h.node i k hk; unfold Row at this ⊢; rw [e]; exact this, h.nodup⟩

/-- Where a pointer stands in the row. -/
def idxP (ks : List (Nat × Nat)) : Value → Nat
  | .pointer (some a) => (ks.map (·.1)).idxOf a.block
  | _ => ks.length
theorem idxP_at {ks : List (Nat × Nat)} (hn : (ks.map (·.1)).Nodup) {i : Nat} (hi : i ≤ ks.length) : idxP ks (optP (nodeOf ks i)) = i := by
  unfold nodeOf
  rcases Nat.lt_or_ge i ks.length with h | h
  · simp only [h, List.getElem?_eq_getElem, Option.map_some, optP, idxP]
    have := hn.idxOf_getElem i (by simpa using h)
    simpa using this
  · rw [List.getElem?_eq_none h]
    simp only [Option.map_none, optP, idxP]
    omega
theorem optP_some (k : Nat) : optP (some k) = .pointer (some ⟨k, 0, none⟩) := rfl
theorem optP_none : optP none = .pointer none := rfl

end Go.Q
namespace Go.Proofs.YtgmljeeeomjooaaGreatDoor
open Go Go.RowKit Go.Q Go.Sort

set_option maxHeartbeats 1600000 in
set_option maxRecDepth 100000 in
theorem quickNew_any (w : World) : Calls Tryz.prog 209 #[] w fun e w' => e = .returned (.pointer (some ⟨w.heap.size, 0, none⟩)) ∧ Links w' w.heap.size [] 0 ∧ Below w.heap.size w w' := by
  go_enter Tryz.func209, Tryz.ntmps209
  go_wp2_with fail
  go_ret
  refine ⟨rfl, ⟨?_, fun i k hk => by simp at hk, by simp⟩, (Below.refl _ _).alloc (Nat.le_refl _) _⟩
  exact Row.new w 390 [.bool true, .pointer none, .pointer none, .int .i64 0]

set_option maxHeartbeats 1600000 in
set_option maxRecDepth 100000 in
theorem quickLen_any (q : Nat) (ks : List (Nat × Nat)) (n : Nat) (w : World) (h : Links w q ks n) :
    Calls Tryz.prog 585 #[.pointer (some ⟨q, 0, none⟩)] w fun e w' => e = .returned (.int .i64 (n : Int)) ∧ w = w' := by
  have hc := h.cell.cell (i := 3) rfl
  go_enter Tryz.func585, Tryz.ntmps585
  go_wp2_with fail
  go_ret
  exact ⟨rfl, rfl⟩

set_option maxHeartbeats 1600000 in
set_option maxRecDepth 100000 in
theorem quickPlace_any (q : Nat) (ks : List (Nat × Nat)) (n k : Nat) (hk : k < n) (hn : n ≤ 1000) (w : World) (h : Links w q ks n) :
    Calls Tryz.prog 589 #[.pointer (some ⟨q, 0, none⟩), .int .i64 (k : Int)] w fun e w' => e = .returned (.tuple #[.int .i64 (k : Int), .bool true]) ∧ w = w' := by
  have hlen := quickLen_any q ks n w h
  have hk' : (k : Int) < n := by omega
  clear h
  go_enter Tryz.func589, Tryz.ntmps589
  go_wp2_with fail
  go_at_call 585
  refine hlen.mono ?_
  rintro e w' ⟨rfl, rfl⟩
  go_wp2_with fail
  go_ret2
  refine ⟨?_, rfl⟩
  simp [hk]

set_option maxHeartbeats 1600000 in
set_option maxRecDepth 100000 in
theorem each_any (gf : Nat) (caps : Array Value) (q : Nat) (ks : List (Nat × Nat)) (n : Nat) (Inv : Nat → World → Prop) (Post : World → Prop) (w : World)
    (eg : Enters Tryz.prog gf)
    (hL : ∀ i W, Inv i W → Links W q ks n)
    (hstep : ∀ i k, ks[i]? = some k → ∀ W, Inv i W → Calls Tryz.prog gf (#[Value.pointer (some ⟨k.1, 0, none⟩)] ++ caps) W fun e W' => (e = .returned (.bool true) ∧ Inv (i + 1) W') ∨ (e = .returned (.bool false) ∧ Post W'))
    (h0 : Inv 0 w) :
    Calls Tryz.prog 304 #[.pointer (some ⟨q, 0, none⟩), .func (.func gf) #[] caps] w fun e w' => e = .returned (.tuple #[]) ∧ (Inv ks.length w' ∨ Post w') := by
  have hc0 := (hL 0 w h0).cell.cell (i := 1) rfl
  have hnd := (hL 0 w h0).nodup
  go_enter Tryz.func304, Tryz.ntmps304
  go_wp2_with fail
  go_loopw [4] (fun x wr => ∃ i : Nat, i ≤ ks.length ∧ x = optP (nodeOf ks i) ∧ Inv i wr) (fun x _ => ks.length - idxP ks x)
  case atStart => exact ⟨0, Nat.zero_le _, rfl, h0⟩
  case round =>
    obtain ⟨i, hi, rfl, hI⟩ := hrel
    rcases Nat.lt_or_ge i ks.length with hlt | hge
    · have hk : ks[i]? = some ks[i] := List.getElem?_eq_getElem hlt
      have hst := hstep i ks[i] hk wr hI
      have hno : nodeOf ks i = some ks[i].1 := by unfold nodeOf; rw [hk]; rfl
      rw [hno, optP_some]
      go_wp2_with fail
      rw [eg]
      go_wp2_with fail
      refine hst.mono ?_
      rintro e w2 (⟨rfl, hI2⟩ | ⟨rfl, hp⟩)
      · have hcn := ((hL _ _ hI2).node i ks[i] hk).cell (i := 2) rfl
        have hm1 : idxP ks (.pointer (some ⟨ks[i].1, 0, none⟩)) = i := by
          have := idxP_at hnd hi
          rwa [hno, optP_some] at this
        have hm2 := idxP_at hnd (i := i + 1) hlt
        generalize hv : optP (nodeOf ks (i + 1)) = v at *
        go_wp2_with fail
        go_roundw
        case rel => exact ⟨i + 1, hlt, hv.symm, hI2⟩
        case measure =>
          show ks.length - idxP ks v < ks.length - idxP ks (.pointer (some ⟨ks[i].1, 0, none⟩))
          rw [hm1, hm2]
          omega
      · go_wp2_with fail
        (try simp only [Exit.inBlock, Exit.then])
        refine bodyPost_ret (results_none rfl _ _ _) rfl ?_
        exact ⟨rfl, .inr hp⟩
    · obtain rfl : i = ks.length := by omega
      have hno : nodeOf ks ks.length = none := by unfold nodeOf; simp
      rw [hno, optP_none]
      go_wp2_with fail
      go_end0
      exact ⟨rfl, .inl hI⟩

end Go.Proofs.YtgmljeeeomjooaaGreatDoor

/-
  quick.find: contract.
-/
namespace Go.Q
open Go Go.RowKit

/-- A node: its block, its pack's, the pack's bytes', the texts. -/
structure Knot where
  x : Nat
  p : Nat
  b : Nat
  xs : List ByteArray
def Knot.key (nd : Knot) : Nat × Nat := (nd.x, nd.p)
def keys (ns : List Knot) : List (Nat × Nat) := ns.map Knot.key
def total (ns : List Knot) : Nat := (ns.map fun nd => nd.xs.length).sum
theorem keys_append (a b : List Knot) : keys (a ++ b) = keys a ++ keys b := by simp [keys]
theorem total_append (a b : List Knot) : total (a ++ b) = total a + total b := by simp [total]
theorem total_cons (a : Knot) (b : List Knot) : total (a :: b) = a.xs.length + total b := by simp [total]
theorem keys_get (ns : List Knot) (i : Nat) : (keys ns)[i]? = ns[i]?.map Knot.key := by simp [keys]
theorem keys_length (ns : List Knot) : (keys ns).length = ns.length := by simp [keys]
/-- Each node's pack. -/
def Packs (w : World) (ns : List Knot) : Prop := ∀ nd ∈ ns, PackAt w nd.p nd.b nd.xs

theorem Packs.below {B : Nat} {w w' : World} {ns : List Knot} (h : Packs w ns) (hB : Below B w w') (hl : w.heap.size ≤ B) : Packs w' ns :=
  fun nd hn => (h nd hn).below hB (Nat.lt_of_lt_of_le (h nd hn).cell.lt hl) (Nat.lt_of_lt_of_le (h nd hn).bytes.lt hl)

theorem take_mono_total {ns : List Knot} : ∀ {i : Nat} {nd : Knot}, ns[i]? = some nd → total (ns.take (i + 1)) = total (ns.take i) + nd.xs.length := by
  intro i nd h
  rw [List.take_add_one, h, total_append]
  simp [total]

end Go.Q
namespace Go.Proofs.YtgmljeeeomjooaaGreatDoor
open Go Go.RowKit Go.Q Go.Sort

set_option maxHeartbeats 1600000 in
set_option maxRecDepth 100000 in
/-- The closure of find: on to the next node. -/
theorem find1_on (x p b : Nat) (xs : List ByteArray) (at_ A F P : Nat) (v : Value) (cs : List Value) (w : World) (hx : Row w x 395 (.pointer (some ⟨p, 0, none⟩) :: cs)) (hp : PackAt w p b xs) (hat : xs.length < at_) (hm : at_ ≤ 1000)
    (hA : Boxed w A 3 (.int .i64 (at_ : Int))) :
    Calls Tryz.prog 305 #[.pointer (some ⟨x, 0, none⟩), .pointer (some ⟨A, 0, none⟩), .pointer (some ⟨F, 0, none⟩), .pointer (some ⟨P, 0, none⟩)] w fun e w' => e = .returned (.bool true) ∧ w' = w.setCell ⟨A, 0, none⟩ (.int .i64 ((at_ - xs.length : Nat) : Int)) := by
  have hlen := len_any p b xs w hp
  have hc := hx.cell (i := 0) rfl
  have hcA := hA.cell
  have hfA := hA.frozen
  have hlt : (xs.length : Int) < (at_ : Int) := by omega
  have hsw : IntKind.i64.wrap ((at_ : Int) - (xs.length : Int)) = ((at_ - xs.length : Nat) : Int) := by rw [IntWalk.i64_in _ (by omega)]; omega
  clear hx hp
  generalize xs.length = m at *
  go_enter Tryz.func305, Tryz.ntmps305
  go_wp2_with fail
  go_at_call 248
  refine hlen.mono ?_
  rintro e w' ⟨rfl, rfl⟩
  go_wp2_with fail
  go_ret
  exact ⟨rfl, rfl⟩

set_option maxHeartbeats 1600000 in
set_option maxRecDepth 100000 in
/-- The closure of find: here. -/
theorem find1_here (x p b : Nat) (xs : List ByteArray) (at_ A F P : Nat) (v u : Value) (cs : List Value) (w : World) (hx : Row w x 395 (.pointer (some ⟨p, 0, none⟩) :: cs)) (hp : PackAt w p b xs) (hat : at_ ≤ xs.length)
    (hA : Boxed w A 3 (.int .i64 (at_ : Int))) (hF : Boxed w F 388 v) (hP : Boxed w P 3 u) (hAF : A ≠ F) (hAP : A ≠ P) (hFP : F ≠ P) :
    Calls Tryz.prog 305 #[.pointer (some ⟨x, 0, none⟩), .pointer (some ⟨A, 0, none⟩), .pointer (some ⟨F, 0, none⟩), .pointer (some ⟨P, 0, none⟩)] w fun e w' => e = .returned (.bool false) ∧
      Boxed w' F 388 (.pointer (some ⟨x, 0, none⟩)) ∧ Boxed w' P 3 (.int .i64 (at_ : Int)) ∧ Only (fun k => k = F ∨ k = P) w w' := by
  have hlen := len_any p b xs w hp
  have hc := hx.cell (i := 0) rfl
  have hcA := hA.cell
  have hcF := hF.cell
  have hfF := hF.frozen
  have hcP := hP.cell
  have hfP := hP.frozen
  have hm := hp.many
  have hlt : ¬ (xs.length : Int) < (at_ : Int) := by omega
  clear hx hp
  generalize xs.length = m at *
  go_enter Tryz.func305, Tryz.ntmps305
  go_wp2_with fail
  go_at_call 248
  refine hlen.mono ?_
  rintro e w' ⟨rfl, rfl⟩
  go_wp2_with fail
  go_region
  all_goals
    go_wp2_with fail
    go_ret
    refine ⟨rfl, ?_, ?_, ?_⟩
    · exact (hF.set _).other hFP _
    · exact (hP.other (fun e => hFP e.symm) _).set _
    · exact (((Only.refl _ w).drew).setCell _ (by simp) _).setCell _ (by simp) _

/-- What find has told. -/
structure Finding (w : World) (v : Nat) (i : Nat) (goal : Nat → Nat) (j : Nat) (W : World) : Prop where
  le : j ≤ i
  at_ : Boxed W w.heap.size 3 (.int .i64 (goal j : Int))
  found : Boxed W (w.heap.size + 1) 388 (.pointer none)
  place : Boxed W (w.heap.size + 1 + 1) 3 (.int .i64 0)
  below : Below w.heap.size w W

theorem below_ne {B k : Nat} (h : B ≤ k) : ∀ i, i < B → ¬ i = k := fun i hi e => by omega

set_option maxHeartbeats 1600000 in
set_option maxRecDepth 100000 in
theorem find_any (q : Nat) (ns : List Knot) (n i : Nat) (nd : Knot) (hi : ns[i]? = some nd) (place : Nat) (hpl : place ≤ nd.xs.length) (hcase : i = 0 ∨ 0 < place) (ht : total ns ≤ 1000) (w : World) (hL : Links w q (keys ns) n) (hP : Packs w ns) :
    Calls Tryz.prog 247 #[.pointer (some ⟨q, 0, none⟩), .int .i64 ((total (ns.take i) + place : Nat) : Int)] w fun e w' =>
      e = .returned (.tuple #[.pointer (some ⟨nd.x, 0, none⟩), .int .i64 (place : Int)]) ∧ Below w.heap.size w w' := by
  have htk : ∀ j, total (ns.take j) ≤ total ns := fun j => by
    conv => rhs; rw [← List.take_append_drop j ns, total_append]
    omega
  have hmono : ∀ j k, j ≤ k → total (ns.take j) ≤ total (ns.take k) := fun j k h => by
    have : ns.take j = (ns.take k).take j := by rw [List.take_take, Nat.min_eq_left h]
    rw [this]
    conv => rhs; rw [← List.take_append_drop j (ns.take k), total_append]
    omega
  have hil : i < ns.length := (List.getElem?_eq_some_iff.1 hi).1
  have hgi := take_mono_total hi
  have hgt := htk (i + 1)
  have hqn := hL.cell.lt
  have bA := Boxed.new w 3 (.int .i64 ((total (ns.take i) + place : Nat) : Int))
  have bF := Boxed.new (w.alloc (.cells #[.int .i64 ((total (ns.take i) + place : Nat) : Int)] 3)) 388 (.pointer none)
  have bP := Boxed.new ((w.alloc (.cells #[.int .i64 ((total (ns.take i) + place : Nat) : Int)] 3)).alloc (.cells #[.pointer none] 388)) 3 (.int .i64 0)
  have hB0 : Below w.heap.size w (((w.alloc (.cells #[.int .i64 ((total (ns.take i) + place : Nat) : Int)] 3)).alloc (.cells #[.pointer none] 388)).alloc (.cells #[.int .i64 0] 3)) := (((Below.refl _ w).alloc (Nat.le_refl _) _).alloc (by simp) _).alloc (by simp; omega) _
  rw [World.size_alloc] at bF bP
  rw [World.size_alloc] at bP
  let goal : Nat → Nat := fun j => total (ns.take i) + place - total (ns.take j)
  have hI0 : Finding w 0 i goal 0 (((w.alloc (.cells #[.int .i64 ((total (ns.take i) + place : Nat) : Int)] 3)).alloc (.cells #[.pointer none] 388)).alloc (.cells #[.int .i64 0] 3)) :=
    ⟨Nat.zero_le _, (bA.alloc _).alloc _, bF.alloc _, bP, hB0⟩
  have heach := each_any 305 #[.pointer (some ⟨w.heap.size, 0, none⟩), .pointer (some ⟨w.heap.size + 1, 0, none⟩), .pointer (some ⟨w.heap.size + 1 + 1, 0, none⟩)] q (keys ns) n
    (Finding w 0 i goal) (fun W => Boxed W (w.heap.size + 1) 388 (.pointer (some ⟨nd.x, 0, none⟩)) ∧ Boxed W (w.heap.size + 1 + 1) 3 (.int .i64 (place : Int)) ∧ Below w.heap.size w W) _
    (enters_of Tryz.func305 (by kernel_rfl) rfl)
    (fun j W hI => hL.only (Only.of_below (S := fun _ => False) hI.below) (fun _ _ _ h => h.elim))
    (by
      intro j k hk W hI
      rw [keys_get] at hk
      obtain ⟨nj, hnj, rfl⟩ := Option.map_eq_some_iff.1 hk
      have hLW := hL.only (Only.of_below (S := fun _ => False) hI.below) (fun _ _ _ h => h.elim)
      have hPW := hP.below hI.below (Nat.le_refl _)
      have hx := hLW.node j _ (by rw [keys_get, hnj]; rfl)
      have hp := hPW nj (List.mem_of_getElem? hnj)
      rcases Nat.lt_or_ge j i with hj | hj
      · have hstep := take_mono_total hnj
        have hle := hmono (j + 1) i hj
        have hpp : 0 < place := by omega
        have := find1_on nj.x nj.p nj.b nj.xs (goal j) _ (w.heap.size + 1) (w.heap.size + 1 + 1) undef _ W hx hp (by show _ < total (ns.take i) + place - total (ns.take j); omega) (by show total (ns.take i) + place - total (ns.take j) ≤ 1000; omega) hI.at_
        refine this.mono ?_
        rintro e W2 ⟨rfl, rfl⟩
        refine .inl ⟨rfl, hj, ?_, hI.found.other (by omega) _, hI.place.other (by omega) _, hI.below.setCell (p := ⟨w.heap.size, 0, none⟩) (Nat.le_refl _) _⟩
        have e : goal j - nj.xs.length = goal (j + 1) := by show total (ns.take i) + place - total (ns.take j) - nj.xs.length = total (ns.take i) + place - total (ns.take (j + 1)); omega
        rw [← e]
        exact hI.at_.set _
      · obtain rfl : j = i := Nat.le_antisymm hI.le hj
        rw [hi] at hnj
        cases hnj
        have e : goal j = place := by show total (ns.take j) + place - total (ns.take j) = place; omega
        have hat := hI.at_
        rw [e] at hat
        have := find1_here nd.x nd.p nd.b nd.xs place _ (w.heap.size + 1) (w.heap.size + 1 + 1) _ _ _ W hx hp hpl hat hI.found hI.place (by omega) (by omega) (by omega)
        refine this.mono ?_
        rintro e W2 ⟨rfl, h1, h2, h3⟩
        exact .inr ⟨rfl, h1, h2, hI.below.trans (h3.below hI.below.size (fun k hk e => by omega))⟩)
    hI0
  clear bA bF bP hB0 hI0 hmono htk hgi hgt
  generalize total (ns.take i) + place = N at *
  go_enter Tryz.func247, Tryz.ntmps247
  go_wp2_with fail
  go_at_call 304
  refine heach.mono ?_
  rintro e w2 ⟨rfl, h | ⟨h1, h2, h3⟩⟩
  · have := h.le
    rw [keys_length] at this
    omega
  have c1 := h1.cell
  have c2 := h2.cell
  have f1 := h1.frozen
  have f2 := h2.frozen
  clear heach
  go_wp2_with fail
  go_region
  all_goals
    go_wp2_with fail
    try simp only [Exit.inBlock, Exit.then]
    have e1 : Boxed (((w2.setCell ⟨w.heap.size + 1, 0, none⟩ (.pointer (some ⟨nd.x, 0, none⟩))).setCell ⟨w.heap.size + 1 + 1, 0, none⟩ (.int .i64 (place : Int))).drew) (w.heap.size + 1) 388 (.pointer (some ⟨nd.x, 0, none⟩)) := (h1.set _).other (by omega) _
    have e2 : Boxed (((w2.setCell ⟨w.heap.size + 1, 0, none⟩ (.pointer (some ⟨nd.x, 0, none⟩))).setCell ⟨w.heap.size + 1 + 1, 0, none⟩ (.int .i64 (place : Int))).drew) (w.heap.size + 1 + 1) 3 (.int .i64 (place : Int)) := (h2.other (by omega) _).set _
    have g1 := e1.cell
    have g2 := e2.cell
    refine bodyPost_ret (v := .tuple #[.pointer (some ⟨nd.x, 0, none⟩), .int .i64 (place : Int)]) ?_ rfl ⟨rfl, ?_⟩
    · simp [results, Tryz.f247, go_sem, g1, g2]
    · exact ((h3.setCell (p := ⟨w.heap.size + 1, 0, none⟩) (by simp) _).setCell (p := ⟨w.heap.size + 1 + 1, 0, none⟩) (by simp; omega) _).drew

end Go.Proofs.YtgmljeeeomjooaaGreatDoor

/-
  quick.link, quick.unlink: contracts; find where there is no node.
-/
namespace Go.Q
open Go Go.RowKit

theorem nodeOf_left {ks : List (Nat × Nat)} {i : Nat} (h : i < ks.length) (l : List (Nat × Nat)) : nodeOf (ks ++ l) i = nodeOf ks i := by
  unfold nodeOf; rw [List.getElem?_append_left h]
theorem nodeOf_at (ks : List (Nat × Nat)) (k : Nat × Nat) (l : List (Nat × Nat)) : nodeOf (ks ++ k :: l) ks.length = some k.1 := by
  unfold nodeOf; simp
theorem nodeOf_past {ks : List (Nat × Nat)} {i : Nat} (h : ks.length ≤ i) : nodeOf ks i = none := by
  unfold nodeOf; rw [List.getElem?_eq_none h]; rfl
theorem aheadOf_left {ks : List (Nat × Nat)} {i : Nat} (h : i ≤ ks.length) (l : List (Nat × Nat)) : aheadOf (ks ++ l) i = aheadOf ks i := by
  cases i with
  | zero => rfl
  | succ i => exact nodeOf_left h l
theorem aheadOf_succ (ks : List (Nat × Nat)) (i : Nat) : aheadOf ks (i + 1) = nodeOf ks i := rfl

theorem nodup_ne {l : List Nat} (h : l.Nodup) {i j a : Nat} (hij : i < j) (h1 : l[i]? = some a) (h2 : l[j]? = some a) : False := by
  obtain ⟨hi, e1⟩ := List.getElem?_eq_some_iff.1 h1
  obtain ⟨hj, e2⟩ := List.getElem?_eq_some_iff.1 h2
  exact List.pairwise_iff_getElem.1 h i j hi hj hij (e1.trans e2.symm)

end Go.Q
namespace Go.Proofs.YtgmljeeeomjooaaGreatDoor
open Go Go.RowKit Go.Q Go.Sort

set_option maxHeartbeats 1600000 in
set_option maxRecDepth 100000 in
theorem link_first (q p n : Nat) (w : World) (h : Links w q [] n) :
    Calls Tryz.prog 246 #[.pointer (some ⟨q, 0, none⟩), .pointer none, .pointer (some ⟨p, 0, none⟩)] w fun e w' => e = .returned (.pointer (some ⟨w.heap.size, 0, none⟩)) ∧
      Links w' q [(w.heap.size, p)] n ∧ Only (· = q) w w' := by
  have hq := h.cell
  have c1 := hq.cell (i := 1) rfl
  have f1 := hq.free 1
  have f2 := hq.free 2
  have hql := hq.lt
  simp only [nodeOf, aheadOf, List.getElem?_nil, Option.map_none, List.length_nil, optP_none] at c1 hq
  have c2 := hq.cell (i := 2) rfl
  have hqN := hq.alloc (.cells #[.pointer (some ⟨p, 0, none⟩), .pointer none, .pointer none] 395)
  have hx := Row.new w 395 [.pointer (some ⟨p, 0, none⟩), .pointer none, .pointer none]
  have x2 := hx.cell (i := 2) rfl
  go_enter Tryz.func246, Tryz.ntmps246
  go_wp2_with fail
  go_ret
  refine ⟨rfl, ⟨?_, ?_, by simp⟩, ?_⟩
  · exact ((hq.set 1 (.pointer (some ⟨w.heap.size, 0, none⟩))).set 2 (.pointer (some ⟨w.heap.size, 0, none⟩))).alloc _
  · intro i k hk
    match i, hk with
    | 0, hk =>
      cases hk
      have := Row.new ((w.setCell ⟨q, 1, none⟩ (.pointer (some ⟨w.heap.size, 0, none⟩))).setCell ⟨q, 2, none⟩ (.pointer (some ⟨w.heap.size, 0, none⟩))) 395 [.pointer (some ⟨p, 0, none⟩), .pointer none, .pointer none]
      simpa [nodeOf, aheadOf, optP] using this
    | i + 1, hk => simp at hk
  · exact (((Only.refl (· = q) w).setCell ⟨q, 1, none⟩ (fun _ => rfl) _).setCell ⟨q, 2, none⟩ (fun _ => rfl) _).alloc _

set_option maxHeartbeats 1600000 in
set_option maxRecDepth 100000 in
theorem unlink_sole (q x p n : Nat) (w : World) (h : Links w q [(x, p)] n) :
    Calls Tryz.prog 587 #[.pointer (some ⟨q, 0, none⟩), .pointer (some ⟨x, 0, none⟩)] w fun e w' => e = .returned (.tuple #[]) ∧
      Links w' q [] n ∧ Only (· = q) w w' := by
  have hq := h.cell
  have hx := h.node 0 (x, p) rfl
  have hne : q ≠ x := fun e => by
    subst e
    have := (hq.eq hx).2
    cases this
  have c1 := hx.cell (i := 1) rfl
  have c2 := hx.cell (i := 2) rfl
  have f1 := hq.free 1
  have f2 := hq.free 2
  simp only [nodeOf, aheadOf, List.getElem?_nil, List.getElem?_cons_succ, Option.map_none, optP_none] at c1 c2
  have d1 := hq.cell (i := 1) rfl
  have d2 := hq.cell (i := 2) rfl
  clear h
  go_enter Tryz.func587, Tryz.ntmps587
  go_wp2_with fail
  go_end0
  refine ⟨rfl, ⟨?_, fun i k hk => by simp at hk, by simp⟩, ?_⟩
  · exact (hq.set 1 (.pointer none)).set 2 (.pointer none)
  · exact ((Only.refl (· = q) w).setCell ⟨q, 1, none⟩ (fun _ => rfl) _).setCell ⟨q, 2, none⟩ (fun _ => rfl) _

set_option maxHeartbeats 1600000 in
set_option maxRecDepth 100000 in
theorem link_last (q x px p n : Nat) (l : List (Nat × Nat)) (w : World) (h : Links w q (l ++ [(x, px)]) n) :
    Calls Tryz.prog 246 #[.pointer (some ⟨q, 0, none⟩), .pointer (some ⟨x, 0, none⟩), .pointer (some ⟨p, 0, none⟩)] w fun e w' => e = .returned (.pointer (some ⟨w.heap.size, 0, none⟩)) ∧
      Links w' q ((l ++ [(x, px)]) ++ [(w.heap.size, p)]) n ∧ Only (fun k => k = q ∨ k = x) w w' := by
  have hq := h.cell
  have hxat : (l ++ [(x, px)])[l.length]? = some (x, px) := by simp
  have hx := h.node l.length (x, px) hxat
  have hne : q ≠ x := fun e => by
    subst e
    have := (hq.eq hx).2
    cases this
  have c1 := hq.cell (i := 1) rfl
  have c2 := hq.cell (i := 2) rfl
  have f1 := hq.free 1
  have f2 := hq.free 2
  have hql := hq.lt
  have hxl := hx.lt
  rw [nodeOf_past (by simp)] at hx
  have d2 := hx.cell (i := 2) rfl
  have g2 := hx.free 2
  rw [optP_none] at d2
  have hnd := h.nodup
  have hnode := Lib.hid h.node
  obtain ⟨x0, hx0⟩ : ∃ x0, nodeOf (l ++ [(x, px)]) 0 = some x0 := by
    cases l with
    | nil => exact ⟨_, rfl⟩
    | cons a l => exact ⟨_, rfl⟩
  have hxl2 : aheadOf (l ++ [(x, px)]) (l ++ [(x, px)]).length = some x := by
    rw [List.length_append]
    exact nodeOf_at l (x, px) []
  have hlen : (l ++ [(x, px)]).length = l.length + 1 := by simp
  generalize hks : l ++ [(x, px)] = ks at *
  clear hks
  rw [hx0, optP_some] at c1
  rw [hxl2, optP_some] at c2
  rw [hx0, hxl2, optP_some, optP_some] at hq
  clear h
  go_enter Tryz.func246, Tryz.ntmps246
  go_wp2_with fail
  go_ret
  generalize hW : (w.setCell ⟨x, 2, none⟩ (.pointer (some ⟨w.heap.size, 0, none⟩))).setCell ⟨q, 2, none⟩ (.pointer (some ⟨w.heap.size, 0, none⟩)) = W
  have hWs : W.heap.size = w.heap.size := by rw [← hW]; simp [World.setCell]
  have hOW : Only (fun k => k = q ∨ k = x) w W := by
    rw [← hW]
    exact ((Only.refl (fun k => k = q ∨ k = x) w).setCell ⟨x, 2, none⟩ (fun _ => .inr rfl) _).setCell ⟨q, 2, none⟩ (fun _ => .inl rfl) _
  have hqW : Row W q 390 [.bool true, .pointer (some ⟨x0, 0, none⟩), .pointer (some ⟨w.heap.size, 0, none⟩), .int .i64 (n : Int)] := by
    rw [← hW]
    exact (hq.set_ne (p := ⟨x, 2, none⟩) hne _).set 2 _
  have hxW : Row W x 395 [.pointer (some ⟨px, 0, none⟩), optP (aheadOf ks l.length), .pointer (some ⟨w.heap.size, 0, none⟩)] := by
    rw [← hW]
    exact (hx.set 2 _).set_ne (p := ⟨q, 2, none⟩) (fun e => hne e.symm) _
  have hnW : ∀ i k, i < l.length → ks[i]? = some k → Row W k.1 395 [.pointer (some ⟨k.2, 0, none⟩), optP (aheadOf ks i), optP (nodeOf ks (i + 1))] := by
    intro i k hi hk
    have hr := hnode.out i k hk
    refine hr.only hOW ?_
    rintro (e | e)
    · rw [e] at hr
      have := (hq.eq hr).2
      cases this
    · have h1 : (ks.map (·.1))[i]? = some x := by rw [List.getElem?_map, hk, ← e]; rfl
      have h2 : (ks.map (·.1))[l.length]? = some x := by rw [List.getElem?_map, hxat]; rfl
      exact nodup_ne hnd hi h1 h2
  refine ⟨rfl, ⟨?_, ?_, ?_⟩, hOW.alloc _⟩
  · rw [nodeOf_left (by omega), hx0, show (ks ++ [(w.heap.size, p)]).length = ks.length + 1 by simp, aheadOf_succ, nodeOf_at]
    exact hqW.alloc _
  · intro i k hk
    rcases Nat.lt_trichotomy i l.length with hi | hi | hi
    · rw [List.getElem?_append_left (by omega)] at hk
      rw [aheadOf_left (by omega), nodeOf_left (by omega)]
      exact (hnW i k hi hk).alloc _
    · subst hi
      rw [List.getElem?_append_left (by omega), hxat] at hk
      cases hk
      rw [aheadOf_left (by omega), show l.length + 1 = ks.length by omega, nodeOf_at]
      exact hxW.alloc _
    · have hi2 : i = ks.length := by
        have := (List.getElem?_eq_some_iff.1 hk).1
        rw [List.length_append] at this
        simp only [List.length_cons, List.length_nil] at this
        omega
      subst hi2
      have hk2 : k = (w.heap.size, p) := by simpa using hk.symm
      subst hk2
      rw [aheadOf_left (Nat.le_refl _), hxl2, nodeOf_past (by simp)]
      have := Row.new W 395 [.pointer (some ⟨p, 0, none⟩), .pointer (some ⟨x, 0, none⟩), .pointer none]
      rw [hWs] at this
      exact this
  · rw [List.map_append, List.nodup_append]
    refine ⟨hnd, by simp, ?_⟩
    intro a ha b hb e
    simp only [List.map_cons, List.map_nil, List.mem_singleton] at hb
    subst e
    subst hb
    obtain ⟨k, hk, e⟩ := List.mem_map.1 ha
    obtain ⟨i, hi⟩ := List.mem_iff_getElem?.1 hk
    have := (hnode.out i k hi).lt
    omega

end Go.Proofs.YtgmljeeeomjooaaGreatDoor

/-
  quick.Insert at the end: contract.
-/
namespace Go.Q
open Go Go.RowKit

theorem row_ne {w : World} {a b : Nat} {t u : TypeId} {cs ds : List Value} (h : Row w a t cs) (k : Row w b u ds) (htu : t ≠ u) : a ≠ b := fun e => by
  subst e
  exact htu (h.eq k).2

/-- A quick row: nodes that are linked, each with its pack; the nodes and the packs lie at B or behind; n stands in its head. -/
structure QuickN (w : World) (B q : Nat) (ns : List Knot) (n : Nat) : Prop where
  links : Links w q (keys ns) n
  packs : Packs w ns
  pdist : (ns.map (·.p)).Nodup
  low : 10 ≤ q
  base : ∀ nd ∈ ns, B ≤ nd.x ∧ B ≤ nd.p
abbrev QuickAt (w : World) (B q : Nat) (ns : List Knot) : Prop := QuickN w B q ns (total ns)

theorem Links.below {C : Nat} {w w' : World} {q : Nat} {ks : List (Nat × Nat)} {n : Nat} (h : Links w q ks n) (hb : Below C w w') (hC : w.heap.size ≤ C) : Links w' q ks n :=
  h.only (Only.of_below (S := fun _ => False) ⟨hb.os, hb.tape, hb.output, hb.size, fun k hk => hb.block k (Nat.lt_of_lt_of_le hk hC)⟩) fun _ _ _ h => h.elim
theorem QuickN.below {C : Nat} {w w' : World} {B q n : Nat} {ns : List Knot} (h : QuickN w B q ns n) (hb : Below C w w') (hC : w.heap.size ≤ C) : QuickN w' B q ns n :=
  ⟨h.links.below hb hC, h.packs.below hb hC, h.pdist, h.low, h.base⟩
theorem Links.count {w : World} {q : Nat} {ks : List (Nat × Nat)} {n : Nat} (h : Links w q ks n) (m : Nat) : Links (w.setCell ⟨q, 3, none⟩ (.int .i64 (m : Int))) q ks m :=
  ⟨h.cell.set 3 _, fun i k hk => (h.node i k hk).set_ne (p := ⟨q, 3, none⟩) (row_ne (h.node i k hk) h.cell (by decide)) _, h.nodup⟩
theorem Packs.but {S : Nat → Prop} {w w' : World} {ns : List Knot} (h : Packs w ns) (ho : Only S w w') (hs : ∀ nd ∈ ns, ¬ S nd.p ∧ ¬ S nd.b) : Packs w' ns :=
  fun nd hn => (h nd hn).only ho (hs nd hn).1 (hs nd hn).2
theorem Packs.append {w : World} {a b : List Knot} (h : Packs w a) (k : Packs w b) : Packs w (a ++ b) := fun nd hn => by
  rcases List.mem_append.1 hn with hn | hn
  · exact h nd hn
  · exact k nd hn
theorem Packs.left {w : World} {a b : List Knot} (h : Packs w (a ++ b)) : Packs w a := fun nd hn => h nd (List.mem_append_left _ hn)
theorem pdist_left {a b : List Knot} (h : ((a ++ b).map (·.p)).Nodup) : (a.map (·.p)).Nodup ∧ (∀ nd ∈ a, ∀ k ∈ b, nd.p ≠ k.p) := by
  rw [List.map_append, List.nodup_append] at h
  exact ⟨h.1, fun nd hn k hk => h.2.2 _ (List.mem_map_of_mem hn) _ (List.mem_map_of_mem hk)⟩

theorem QuickN.count {w : World} {B q n : Nat} {ns : List Knot} (h : QuickN w B q ns n) (m : Nat) : QuickN (w.setCell ⟨q, 3, none⟩ (.int .i64 (m : Int))) B q ns m :=
  ⟨h.links.count m, h.packs.but (S := (· = q)) ((Only.refl (· = q) w).setCell ⟨q, 3, none⟩ (fun _ => rfl) _) fun nd hn => ⟨row_ne (h.packs nd hn).cell h.links.cell (by decide), row_ne (h.packs nd hn).bytes h.links.cell (by decide)⟩, h.pdist, h.low, h.base⟩
/-- Another pack's text at one node. -/
theorem QuickN.put {w w' : World} {B q n : Nat} {pre post : List Knot} {nd : Knot} (h : QuickN w B q (pre ++ nd :: post) n) (ho : Only (· = nd.p) w w') {b' : Nat} {ys : List ByteArray} (hp : PackAt w' nd.p b' ys) :
    QuickN w' B q (pre ++ ⟨nd.x, nd.p, b', ys⟩ :: post) n := by
  have hpd := h.pdist
  rw [List.map_append, List.nodup_append, List.map_cons, List.nodup_cons] at hpd
  have hc := (h.packs nd (by simp)).cell
  have hk : keys (pre ++ ⟨nd.x, nd.p, b', ys⟩ :: post) = keys (pre ++ nd :: post) := by simp [keys, Knot.key]
  refine ⟨?_, ?_, ?_, h.low, ?_⟩
  · rw [hk]
    refine h.links.only ho fun k cs t e hr => ?_
    subst e
    have := (hc.eq hr).2
    subst this
    decide
  · intro k hkm
    rcases List.mem_append.1 hkm with hkm | hkm
    · refine (h.packs k (by simp [hkm])).only ho ?_ ?_
      · intro e
        exact hpd.2.2 k.p (List.mem_map_of_mem hkm) nd.p (by simp) e
      · exact row_ne (h.packs k (by simp [hkm])).bytes hc (by decide)
    · rcases List.mem_cons.1 hkm with rfl | hkm
      · exact hp
      · refine (h.packs k (by simp [hkm])).only ho ?_ ?_
        · intro e
          exact hpd.2.1.1 (e ▸ List.mem_map_of_mem hkm)
        · exact row_ne (h.packs k (by simp [hkm])).bytes hc (by decide)
  · have := h.pdist
    simpa using this
  · intro k hkm
    have := h.base
    simp only [List.mem_append, List.mem_cons] at hkm this
    rcases hkm with hkm | rfl | hkm
    · exact this k (.inl hkm)
    · exact this nd (.inr (.inl rfl))
    · exact this k (.inr (.inr hkm))

/-- Nothing is written but the head and what lies at B or behind. -/
def Near (B q : Nat) (w w' : World) : Prop := Only (fun k => k = q ∨ B ≤ k) w w'
theorem Near.of {B q : Nat} {w w' : World} (h : Below w.heap.size w w') : Near B q w w' := Only.of_below h
theorem Near.trans {B q : Nat} {a b c : World} (h : Near B q a b) (k : Near B q b c) : Near B q a c := Only.trans h k
theorem Near.set {B q : Nat} {a b : World} (h : Near B q a b) (o : Nat) (v : Value) : Near B q a (b.setCell ⟨q, o, none⟩ v) := Only.setCell h ⟨q, o, none⟩ (fun _ => .inl rfl) v
theorem Near.pack {B q p : Nat} {a b c : World} (h : Near B q a b) (k : Only (· = p) b c) (hp : B ≤ p) : Near B q a c := Only.trans h (k.mono fun _ _ e => .inr (e ▸ hp))
theorem Near.head {B q : Nat} {a b c : World} (h : Near B q a b) (k : Only (· = q) b c) : Near B q a c := Only.trans h (k.mono fun _ _ e => .inl e)
theorem Near.below {B q C : Nat} {w w' : World} (h : Near B q w w') (hq : C ≤ q) (hB : C ≤ B) (hC : C ≤ w.heap.size) : Below C w w' := Only.below h hC fun k hk e => by rcases e with e | e <;> omega

/-- The texts of all nodes. -/
def texts (ns : List Knot) : List ByteArray := ns.flatMap (·.xs)
theorem texts_append (a b : List Knot) : texts (a ++ b) = texts a ++ texts b := by simp [texts]
theorem texts_length (ns : List Knot) : (texts ns).length = total ns := by
  induction ns with
  | nil => rfl
  | cons a l ih => simp only [texts, List.flatMap_cons, List.length_append, total_cons] at ih ⊢; rw [ih]

/-- How the packs are filled where texts came to the end alone. -/
def Filled (ns : List Knot) : Prop := ns = [] ∨ ∃ init last, ns = init ++ [last] ∧ (∀ nd ∈ init, nd.xs.length = 16) ∧ 1 ≤ last.xs.length ∧ last.xs.length ≤ 32 ∧ (init ≠ [] → 17 ≤ last.xs.length)

end Go.Q
namespace Go.Proofs.YtgmljeeeomjooaaGreatDoor
open Go Go.RowKit Go.Q Go.Sort

set_option maxHeartbeats 1600000 in
set_option maxRecDepth 100000 in
/-- The last pack has room. -/
theorem push_room (B q : Nat) (init : List Knot) (last : Knot) (s : ByteArray) (hs : s.size ≤ 65536) (hlt : last.xs.length < 32) (hne : init = [] ∨ 0 < last.xs.length) (w : World) (h : QuickAt w B q (init ++ [last])) (ht : total (init ++ [last]) < 1000) (hG : Glob w) (hB : 10 ≤ B) :
    Calls Tryz.prog 210 #[.pointer (some ⟨q, 0, none⟩), .int .i64 (total (init ++ [last]) : Int), .string s] w fun e w' => e = .returned (.int .i64 0) ∧
      ∃ b', QuickAt w' B q (init ++ [⟨last.x, last.p, b', last.xs ++ [s]⟩]) ∧ Near B q w w' := by
  have htl : total (init ++ [last]) = total init + last.xs.length := by rw [total_append, total_cons]; simp [total]
  have hfind := find_any q (init ++ [last]) (total (init ++ [last])) init.length last (by simp) last.xs.length (Nat.le_refl _) (hne.imp (fun h => by simp [h]) id) (by omega) w h.links h.packs
  rw [List.take_left' rfl, ← htl] at hfind
  have hP := h.packs last (by simp)
  have hX : Row w last.x 395 [.pointer (some ⟨last.p, 0, none⟩), optP (aheadOf (keys (init ++ [last])) init.length), optP (nodeOf (keys (init ++ [last])) (init.length + 1))] := h.links.node init.length last.key (by rw [keys_get]; simp [keys])
  have hQ := h.links.cell
  have hxl := hX.lt
  have hql := hQ.lt
  have hpb := h.base last (by simp)
  have hqp : q ≠ last.p := row_ne hQ hP.cell (by decide)
  have hm := hP.many
  have hlen := fun w' (hw : Below w.heap.size w w') => len_any last.p last.b last.xs w' (hP.below hw hP.cell.lt hP.bytes.lt)
  have hins := fun w' (hw : Below w.heap.size w w') => insert_p last.p last.b last.xs last.xs.length (Nat.le_refl _) s hs (by omega) w' (hP.below hw hP.cell.lt hP.bytes.lt) (hG.below hw hG.size) (by omega)
  simp only [insAt_end] at hins
  have hcx := fun w' (hw : Below w.heap.size w w') => (hX.cell (i := 0) rfl) ▸ (hw.cell (p := ⟨last.x, 0, none⟩) hxl)
  have hcq0 := hQ.cell (i := 0) rfl
  have hcq1 := hQ.cell (i := 1) rfl
  have hcq3 := hQ.cell (i := 3) rfl
  obtain ⟨x0, hx0⟩ : ∃ x0, nodeOf (keys (init ++ [last])) 0 = some x0 := by
    cases init with
    | nil => exact ⟨_, rfl⟩
    | cons a l => exact ⟨_, rfl⟩
  rw [hx0, optP_some] at hcq1
  have H := Lib.hid h
  have hpl := hP.cell.lt
  have hBw : B ≤ w.heap.size := by omega
  have hTL := Lib.hid htl
  have hq3f := hQ.free 3
  clear h htl hX hP hQ hx0 hne
  generalize hN : total (init ++ [last]) = N at *
  generalize hM : last.xs.length = M at *
  have hM32 : ¬ ((M : Int) = 32) := by omega
  go_enter Tryz.func210, Tryz.ntmps210
  go_wp2_with fail
  go_at_call 247
  refine hfind.mono ?_
  rintro e w1 ⟨rfl, hb1⟩
  have c1 := hcx w1 hb1
  have hl1 := hlen w1 hb1
  have hi1 := hins w1 hb1
  have hq1 : w1.cell? ⟨q, 3, none⟩ = some (.int .i64 (N : Int)) := (hb1.cell (p := ⟨q, 3, none⟩) hql).trans hcq3
  have hqf1 : w1.frozen? ⟨q, 3, none⟩ = false := (hb1.frozen (p := ⟨q, 3, none⟩) hql).trans hq3f
  clear hlen hins hfind hcx
  go_wp2_with fail
  go_at_call 248
  refine hl1.mono ?_
  rintro e w' ⟨rfl, rfl⟩
  go_wp2_with fail
  go_at_call 250
  refine hi1.mono ?_
  rintro e w3 ⟨rfl, b', hpk, hbb, hon⟩
  have hqN := hb1.size
  have hq3 : w3.cell? ⟨q, 3, none⟩ = some (.int .i64 (N : Int)) := (hon.cell (p := ⟨q, 3, none⟩) (by show q < _; omega) hqp).trans hq1
  have hqf3 : w3.frozen? ⟨q, 3, none⟩ = false := (hon.frozen (p := ⟨q, 3, none⟩) (by show q < _; omega) hqp).trans hqf1
  clear hl1 hi1
  go_wp2_with fail
  go_ret
  refine ⟨rfl, b', ?_, ?_⟩
  · have hq' := ((H.out.below hb1 (Nat.le_refl _)).put (pre := init) (post := []) hon hpk).count (N + 1)
    have e : total (init ++ [⟨last.x, last.p, b', last.xs ++ [s]⟩]) = N + 1 := by
      rw [total_append, total_cons, hTL.out, ← hM]
      simp [total]
      omega
    unfold QuickAt
    rw [e]
    exact hq'
  · exact ((Near.of hb1).pack hon hpb.2).set 3 _

set_option maxHeartbeats 1600000 in
set_option maxRecDepth 100000 in
/-- The first text. -/
theorem push_first (B q : Nat) (s : ByteArray) (hs : s.size ≤ 65536) (w : World) (h : QuickAt w B q []) (hG : Glob w) (hB : 10 ≤ B) (hBw : B ≤ w.heap.size) :
    Calls Tryz.prog 210 #[.pointer (some ⟨q, 0, none⟩), .int .i64 0, .string s] w fun e w' => e = .returned (.int .i64 0) ∧
      ∃ nd : Knot, nd.xs = [s] ∧ QuickAt w' B q [nd] ∧ Near B q w w' := by
  have hQ := h.links.cell
  have hql := hQ.lt
  have hBq := h.low
  have hcq0 := hQ.cell (i := 0) rfl
  have hcq1 : w.cell? ⟨q, 1, none⟩ = some (.pointer none) := hQ.cell (i := 1) rfl
  have hcq3 : w.cell? ⟨q, 3, none⟩ = some (.int .i64 0) := hQ.cell (i := 3) rfl
  have hnew := new_any w
  have H := Lib.hid h
  have hG' := Lib.hid hG
  clear h hQ hG
  go_enter Tryz.func210, Tryz.ntmps210
  go_wp2_with fail
  go_at_call 140
  refine hnew.mono ?_
  rintro e w1 ⟨rfl, hpk1, hb1⟩
  have hL1 := H.out.links.below hb1 (Nat.le_refl _)
  have hlink := link_first q (w.heap.size + 1) 0 w1 hL1
  clear hnew
  go_wp2_with fail
  go_at_call 246
  refine hlink.mono ?_
  rintro e w2 ⟨rfl, hL2, ho2⟩
  have hs1 := hb1.size
  have hs2 := ho2.size
  have hp1l := hpk1.cell.lt
  have hQ1 : Row w1 q 390 _ := hL1.cell
  have hpk2 := hpk1.only ho2 (row_ne hpk1.cell hQ1 (by decide)) (row_ne hpk1.bytes hQ1 (by decide))
  have H2 : QuickN w2 B q ([] ++ [⟨w1.heap.size, w.heap.size + 1, w.heap.size, []⟩]) 0 :=
    ⟨hL2, fun nd hn => by simp only [List.nil_append, List.mem_singleton] at hn; subst hn; exact hpk2, by simp, hBq, fun nd hn => by simp only [List.nil_append, List.mem_singleton] at hn; subst hn; exact ⟨by show B ≤ w1.heap.size; omega, by show B ≤ w.heap.size + 1; omega⟩⟩
  have hG2 : Glob w2 := (hG'.out.below hb1 hG'.out.size).only ho2 (fun k hk e => by omega)
  have hfind := find_any q _ 0 0 ⟨w1.heap.size, w.heap.size + 1, w.heap.size, []⟩ rfl 0 (Nat.zero_le _) (.inl rfl) (by simp [total]) w2 H2.links H2.packs
  have hX : Row w2 w1.heap.size 395 [.pointer (some ⟨w.heap.size + 1, 0, none⟩), _, _] := H2.links.node 0 _ rfl
  have hxl := hX.lt
  have hQ2 : Row w2 q 390 _ := H2.links.cell
  have hl := fun w' (hw : Below w2.heap.size w2 w') => len_any (w.heap.size + 1) w.heap.size [] w' (hpk2.below hw hpk2.cell.lt hpk2.bytes.lt)
  have hi := fun w' (hw : Below w2.heap.size w2 w') => insert_p (w.heap.size + 1) w.heap.size [] 0 (Nat.le_refl _) s hs (by simp) w' (hpk2.below hw hpk2.cell.lt hpk2.bytes.lt) (hG2.below hw hG2.size) (by omega)
  have hcx := fun w' (hw : Below w2.heap.size w2 w') => (hX.cell (i := 0) rfl) ▸ (hw.cell (p := ⟨w1.heap.size, 0, none⟩) hxl)
  have hq2 : w2.cell? ⟨q, 3, none⟩ = some (.int .i64 0) := hQ2.cell (i := 3) rfl
  have hqf2 := hQ2.free 3
  have hql2 := hQ2.lt
  have H2' := Lib.hid H2
  have hp2l := hpk2.cell.lt
  have hqp : q ≠ w.heap.size + 1 := row_ne hQ2 hpk2.cell (by decide)
  have hfind' : Calls Tryz.prog 247 #[.pointer (some ⟨q, 0, none⟩), .int .i64 0] w2 fun e w' => e = .returned (.tuple #[.pointer (some ⟨w1.heap.size, 0, none⟩), .int .i64 0]) ∧ Below w2.heap.size w2 w' := hfind
  clear hlink hpk1 hL1 hL2 hQ1 hpk2 H2 hG2 hfind hX hQ2
  go_wp2_with fail
  go_at_call 247
  refine hfind'.mono ?_
  rintro e w3 ⟨rfl, hb3⟩
  have c1 := hcx w3 hb3
  have hl1 := hl w3 hb3
  have hi1 := hi w3 hb3
  have hq1 : w3.cell? ⟨q, 3, none⟩ = some (.int .i64 0) := (hb3.cell (p := ⟨q, 3, none⟩) hql2).trans hq2
  have hqf1 : w3.frozen? ⟨q, 3, none⟩ = false := (hb3.frozen (p := ⟨q, 3, none⟩) hql2).trans hqf2
  clear hl hi hfind' hcx
  go_wp2_with fail
  go_at_call 248
  refine hl1.mono ?_
  rintro e w' ⟨rfl, rfl⟩
  go_wp2_with fail
  go_at_call 250
  refine hi1.mono ?_
  rintro e w4 ⟨rfl, b', hpk, hbb, hon⟩
  have hqN := hb3.size
  have hq3 : w4.cell? ⟨q, 3, none⟩ = some (.int .i64 0) := (hon.cell (p := ⟨q, 3, none⟩) (by show q < _; omega) hqp).trans hq1
  have hqf3 : w4.frozen? ⟨q, 3, none⟩ = false := (hon.frozen (p := ⟨q, 3, none⟩) (by show q < _; omega) hqp).trans hqf1
  clear hl1 hi1
  go_wp2_with fail
  go_ret
  refine ⟨rfl, ⟨w1.heap.size, w.heap.size + 1, b', [s]⟩, rfl, ?_, ?_⟩
  · exact ((H2'.out.below hb3 (Nat.le_refl _)).put (pre := []) (post := []) hon hpk).count 1
  · exact (((((Near.of hb1).head ho2).trans (Near.of hb3)).pack hon (by omega)).set 3 _)

end Go.Proofs.YtgmljeeeomjooaaGreatDoor
