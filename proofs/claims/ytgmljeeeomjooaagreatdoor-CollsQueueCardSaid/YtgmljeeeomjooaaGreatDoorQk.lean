/-
  list.Pop: contracts.
-/
import Derived.Test.YtgmljeeeomjooaaGreatDoorQj
import Derived.Laws.Rows
set_option linter.all false
/-
  list.Pop: contracts.
-/
namespace Go.Q
open Go Go.RowKit

/-- What is left behind a pop. -/
def rest (front : Bool) (xs : List ByteArray) : List ByteArray := if front then xs.drop 1 else xs.take (xs.length - 1)
/-- The place that is popped. -/
def popAt (front : Bool) (n : Nat) : Nat := if front then 0 else n - 1
theorem rest_del (front : Bool) {xs : List ByteArray} (h : 0 < xs.length) : delAt xs (popAt front xs.length) 1 = rest front xs := by
  unfold delAt rest popAt
  cases front
  · simp only [Bool.false_eq_true, if_false]
    rw [List.drop_of_length_le (by omega), List.append_nil]
  · simp

end Go.Q
namespace Go.Proofs.YtgmljeeeomjooaaGreatDoor
open Go Go.RowKit Go.Q Go.Sort

set_option maxHeartbeats 1600000 in
set_option maxRecDepth 100000 in
theorem pop_small (front : Bool) (B l : Nat) (xs : List ByteArray) (p b : Nat) (hpos : 0 < xs.length) (w : World) (h : SmallAt w B l xs p b) (hG : Glob w) (hB : 10 ≤ B) :
    Calls Tryz.prog 100 #[.pointer (some ⟨l, 0, none⟩), .bool front] w fun e w' => e = .returned (.tuple #[.string (xs.getD (popAt front xs.length) ⟨#[]⟩), .bool true]) ∧ ListAt (fun _ => True) w' B l (rest front xs) ∧ Below B w w' := by
  have hlen := listLen_any (fun _ => True) B l xs w (.inl ⟨p, b, h⟩)
  have hat : popAt front xs.length < xs.length := by unfold popAt; split <;> omega
  have hget := get_any p b xs (popAt front xs.length) hat w h.pack hG
  have hgd : xs.getD (popAt front xs.length) ⟨#[]⟩ = xs[popAt front xs.length] := by simp [List.getD_eq_getElem?_getD, hat]
  rw [← hgd] at hget
  have hdel := fun w' (hw : Below w.heap.size w w') => delete_p p b xs (popAt front xs.length) 1 (by omega) (by have := h.few; omega) w' (h.pack.below hw h.pack.cell.lt h.pack.bytes.lt) (hG.below hw hG.size) (by have := h.low; omega)
  rw [rest_del front hpos] at hdel
  have hc1 := fun w' (hw : Below w.heap.size w w') => (row_below h.cell hw (Nat.le_refl _)).cell (i := 0) rfl
  have hc := h.cell.cell (i := 0) rfl
  have hm1 := inv_small_Get p w
  have hm2 := fun w' => inv_small_Delete p w'
  have hpos' : (0 : Int) < (xs.length : Int) := by omega
  have hfew : (xs.length : Int) ≤ 32 := by have := h.few; omega
  have H := Lib.hid h
  have hsub : popAt false xs.length = xs.length - 1 := rfl
  have hsub2 : ((popAt false xs.length : Nat) : Int) = (xs.length : Int) - 1 := by rw [hsub]; omega
  have hsub3 : ((popAt true xs.length : Nat) : Int) = 0 := rfl
  clear h hG hgd hat
  cases front
  all_goals
    first | rw [hsub2] at hget hdel | rw [hsub3] at hget hdel
    clear hsub hsub2 hsub3
    go_enter Tryz.func100, Tryz.ntmps100
    go_wp2_with fail
    go_at_call 99
    refine hlen.mono ?_
    rintro e w' ⟨rfl, rfl⟩
    clear hlen
    go_wp2_with fail
    go_at_call 395
    refine hget.mono ?_
    rintro e w1 ⟨rfl, hb1⟩
    have hd1 := hdel w1 hb1
    have hcc := hc1 w1 hb1
    have hmm := hm2 w1
    clear hget hdel hc1 hm1 hm2
    go_wp2_with fail
    go_at_call 308
    refine hd1.mono ?_
    rintro e w2 ⟨rfl, b', hpk, hbb, hon⟩
    go_wp2_with fail
    go_ret2
    have hlow := H.out.low
    have hpl := H.out.pack.cell.lt
    have hsz := hb1.size
    have H1 := H.out.below hb1 (Nat.le_refl _)
    refine ⟨rfl, .inl ⟨p, b', H1.cell.only hon (row_ne H1.cell H1.pack.cell (by decide)), hpk, ?_, hlow⟩, (hb1.mono (by omega)).trans (hon.below (by omega) (fun k hk e => by omega))⟩
    have := H.out.few
    simp [rest]; omega

end Go.Proofs.YtgmljeeeomjooaaGreatDoor

/-
  list.Pop of a great list, of any list: contracts.
-/
namespace Go.Q
open Go Go.RowKit

theorem apart_big {ns : List Knot} (h : ∀ nd ∈ ns, 9 ≤ nd.xs.length) : Apart ns := fun i a b ha hb => by
  have h1 := h a (List.mem_of_getElem? ha)
  have h2 := h b (List.mem_of_getElem? hb)
  omega
theorem apart_one (nd : Knot) : Apart [nd] := fun i a b _ hb => by simp at hb
theorem texts_mid (pre : List Knot) (nd : Knot) (post : List Knot) : texts (pre ++ nd :: post) = texts pre ++ (nd.xs ++ texts post) := by
  rw [texts_append]; simp [texts]
theorem del_mid {pre : List Knot} {nd : Knot} {post : List Knot} {j : Nat} (hj : j < nd.xs.length) (x p b : Nat) :
    texts (pre ++ ⟨x, p, b, delAt nd.xs j 1⟩ :: post) = delAt (texts (pre ++ nd :: post)) (total pre + j) 1 := by
  rw [texts_mid, texts_mid]
  unfold delAt
  have e : (texts pre).length = total pre := texts_length pre
  have h1 : List.take (total pre + j) (texts pre ++ (nd.xs ++ texts post)) = texts pre ++ nd.xs.take j := by
    rw [List.take_append, e, List.take_of_length_le (by omega), Nat.add_sub_cancel_left, List.take_append_of_le_length (by omega)]
  have h2 : List.drop (total pre + j + 1) (texts pre ++ (nd.xs ++ texts post)) = nd.xs.drop (j + 1) ++ texts post := by
    rw [List.drop_append, e, List.drop_of_length_le (by omega), List.nil_append, show total pre + j + 1 - total pre = j + 1 by omega, List.drop_append_of_le_length (by omega)]
  rw [h1, h2]
  simp
theorem get_mid {pre : List Knot} {nd : Knot} {post : List Knot} {j : Nat} (hj : j < nd.xs.length) : (texts (pre ++ nd :: post)).getD (total pre + j) ⟨#[]⟩ = nd.xs[j] := by
  rw [texts_mid, List.getD_eq_getElem?_getD, List.getElem?_append_right (by rw [texts_length]; omega), texts_length, Nat.add_sub_cancel_left, List.getElem?_append_left hj]
  simp [hj]

/-- Where a pop takes its text. -/
theorem pop_place (front : Bool) {ns : List Knot} (hf : Filled ns) (hpos : 0 < total ns) : ∃ pre nd post j, ns = pre ++ nd :: post ∧ j < nd.xs.length ∧ total pre + j = popAt front (total ns) ∧
    ((pre = [] ∧ post = [] ∧ nd.xs.length = 1) ∨ (1 < nd.xs.length ∧ ∀ b, Apart (pre ++ (⟨nd.x, nd.p, b, delAt nd.xs j 1⟩ : Knot) :: post))) := by
  rcases hf with rfl | ⟨init, last, rfl, h16, h1, h32, h17⟩
  · simp [total] at hpos
  have htl : total (init ++ [last]) = total init + last.xs.length := by rw [total_append, total_cons]; simp [total]
  cases front
  · refine ⟨init, last, [], last.xs.length - 1, rfl, by omega, by unfold popAt; simp only [Bool.false_eq_true, if_false]; omega, ?_⟩
    by_cases hi : init = []
    · subst hi
      by_cases ho : last.xs.length = 1
      · exact .inl ⟨rfl, rfl, ho⟩
      · exact .inr ⟨by omega, fun b => apart_one _⟩
    · have := h17 hi
      refine .inr ⟨by omega, fun b => apart_big fun nd hn => ?_⟩
      rcases List.mem_append.1 hn with hn | hn
      · rw [h16 nd hn]; omega
      · simp only [List.mem_singleton] at hn
        subst hn
        show 9 ≤ (delAt _ _ _).length
        rw [delAt_length (by omega)]; omega
  · cases init with
    | nil =>
      refine ⟨[], last, [], 0, rfl, by omega, by simp [popAt, total], ?_⟩
      by_cases ho : last.xs.length = 1
      · exact .inl ⟨rfl, rfl, ho⟩
      · exact .inr ⟨by omega, fun b => apart_one _⟩
    | cons a init =>
      have ha := h16 a (by simp)
      have hl := h17 (by simp)
      refine ⟨[], a, init ++ [last], 0, rfl, by omega, by simp [popAt, total], .inr ⟨by omega, fun b => apart_big fun nd hn => ?_⟩⟩
      simp only [List.nil_append, List.mem_cons, List.mem_append, List.not_mem_nil, or_false] at hn
      rcases hn with rfl | hn | rfl
      · show 9 ≤ (delAt _ _ _).length
        rw [delAt_length (by omega)]; omega
      · rw [h16 nd (by simp [hn])]; omega
      · omega

end Go.Q
namespace Go.Proofs.YtgmljeeeomjooaaGreatDoor
open Go Go.RowKit Go.Q Go.Sort

/-- quick.Get and quick.Delete at a pop's place. -/
theorem quick_pop (front : Bool) (C q : Nat) (ns : List Knot) (hf : Filled ns) (hpos : 0 < total ns) (ht : total ns ≤ 1000) (w : World) (h : QuickAt w C q ns) (hG : Glob w) (hC : 10 ≤ C) :
    Calls Tryz.prog 584 #[.pointer (some ⟨q, 0, none⟩), .int .i64 ((popAt front (total ns) : Nat) : Int)] w (fun e w' => e = .returned (.tuple #[.string ((texts ns).getD (popAt front (total ns)) ⟨#[]⟩), .bool true]) ∧ Below w.heap.size w w') ∧
    ∀ w', Below w.heap.size w w' → Calls Tryz.prog 583 #[.pointer (some ⟨q, 0, none⟩), .int .i64 ((popAt front (total ns) : Nat) : Int), .int .i64 1] w' (fun e w'' => e = .returned (.int .i64 0) ∧ (∃ ns', QuickAt w'' C q ns' ∧ texts ns' = rest front (texts ns)) ∧ Near C q w' w'') := by
  obtain ⟨pre, nd, post, j, rfl, hj, hpl, hcase⟩ := pop_place front hf hpos
  have hrest : delAt (texts (pre ++ nd :: post)) (total pre + j) 1 = rest front (texts (pre ++ nd :: post)) := by
    rw [hpl, ← texts_length]
    exact rest_del front (by rw [texts_length]; exact hpos)
  refine ⟨?_, fun w' hw => ?_⟩
  · have := quickGet_any C q pre nd post j hj w h ht hG
    rw [hpl] at this
    rw [← hpl, get_mid hj, hpl]
    exact this
  · rcases hcase with ⟨rfl, rfl, h1⟩ | ⟨h1, hap⟩
    · have e0 : popAt front (total ([] ++ [nd])) = 0 := by rw [← hpl]; simp [total]; omega
      rw [e0]
      refine (del_sole C q nd h1 w' (h.below hw (Nat.le_refl _)) (hG.below hw hG.size) hC).mono ?_
      rintro e w'' ⟨rfl, hq, hN⟩
      refine ⟨rfl, ⟨[], hq, ?_⟩, hN⟩
      rw [← hrest, ← del_mid hj nd.x nd.p nd.b]
      have : delAt nd.xs j 1 = [] := List.length_eq_zero_iff.1 (by rw [delAt_length (by omega)]; omega)
      rw [this]
      simp [texts]
    · have := del_one C q pre nd post j hj h1 w' (h.below hw (Nat.le_refl _)) ht (hG.below hw hG.size) hC hap
      rw [hpl] at this
      refine this.mono ?_
      rintro e w'' ⟨rfl, b', hq, hN⟩
      exact ⟨rfl, ⟨_, hq, by rw [del_mid hj, hrest]⟩, hN⟩

set_option maxHeartbeats 1600000 in
set_option maxRecDepth 100000 in
theorem pop_great (front : Bool) (B l : Nat) (xs : List ByteArray) (q C : Nat) (ns : List Knot) (hpos : 0 < xs.length) (hm : xs.length ≤ 1000) (w : World) (h : GreatAt Filled w B l xs q C ns) (hG : Glob w) :
    Calls Tryz.prog 100 #[.pointer (some ⟨l, 0, none⟩), .bool front] w fun e w' => e = .returned (.tuple #[.string (xs.getD (popAt front xs.length) ⟨#[]⟩), .bool true]) ∧ ListAt (fun _ => True) w' B l (rest front xs) ∧ Below B w w' := by
  have hlen := listLen_any Filled B l xs w (.inr ⟨q, C, ns, h⟩)
  obtain ⟨hget, hdel⟩ := quick_pop front C q ns h.shape (by rw [h.total]; exact hpos) (by rw [h.total]; exact hm) w h.quick hG h.base.1
  rw [h.total, h.texts] at hget
  rw [h.total, h.texts] at hdel
  have hc1 := fun w' (hw : Below w.heap.size w w') => (row_below h.cell hw (Nat.le_refl _)).cell (i := 0) rfl
  have hc := h.cell.cell (i := 0) rfl
  have hm1 := inv_great_Get q w
  have hm2 := fun w' => inv_great_Delete q w'
  have hpos' : (0 : Int) < (xs.length : Int) := by omega
  have hm' : (xs.length : Int) ≤ 1000 := by omega
  have H := Lib.hid h
  have hsub : popAt false xs.length = xs.length - 1 := rfl
  have hsub2 : ((popAt false xs.length : Nat) : Int) = (xs.length : Int) - 1 := by rw [hsub]; omega
  have hsub3 : ((popAt true xs.length : Nat) : Int) = 0 := rfl
  clear h hG
  cases front
  all_goals
    first | rw [hsub2] at hget hdel | rw [hsub3] at hget hdel
    clear hsub hsub2 hsub3
    go_enter Tryz.func100, Tryz.ntmps100
    go_wp2_with fail
    go_at_call 99
    refine hlen.mono ?_
    rintro e w' ⟨rfl, rfl⟩
    clear hlen
    go_wp2_with fail
    go_at_call 584
    refine hget.mono ?_
    rintro e w1 ⟨rfl, hb1⟩
    have hd1 := hdel w1 hb1
    have hcc := hc1 w1 hb1
    have hmm := hm2 w1
    clear hget hdel hc1 hm1 hm2
    go_wp2_with fail
    go_at_call 583
    refine hd1.mono ?_
    rintro e w2 ⟨rfl, ⟨ns', hq, ht⟩, hN⟩
    go_wp2_with fail
    go_ret2
    have hl := H.out.low
    have hb := H.out.base
    have hsz := hb1.size
    have H1 := H.out.below hb1 (Nat.le_refl _)
    have hlq := row_ne H1.cell H1.quick.links.cell (by decide)
    exact ⟨rfl, .inr ⟨q, C, ns', H1.cell.only hN (fun e => by rcases e with e | e; exact hlq e; omega), hq, trivial, ht, hl, hb.1, Nat.le_trans (Nat.le_trans hb.2.1 hsz) hN.size, hb.2.2⟩, (hb1.mono (by omega)).trans (hN.below hl.2.1 hl.2.2 (by omega))⟩

/-- A list's pop. -/
theorem listPop_any (front : Bool) (B l : Nat) (xs : List ByteArray) (hpos : 0 < xs.length) (hm : xs.length ≤ 1000) (w : World) (h : ListAt Filled w B l xs) (hG : Glob w) (hB : 10 ≤ B) :
    Calls Tryz.prog 100 #[.pointer (some ⟨l, 0, none⟩), .bool front] w fun e w' => e = .returned (.tuple #[.string (xs.getD (popAt front xs.length) ⟨#[]⟩), .bool true]) ∧ ListAt (fun _ => True) w' B l (rest front xs) ∧ Below B w w' := by
  rcases h with ⟨p, b, h⟩ | ⟨q, D, ns, h⟩
  · exact pop_small front B l xs p b hpos w h hG hB
  · exact pop_great front B l xs q D ns hpos hm w h hG

end Go.Proofs.YtgmljeeeomjooaaGreatDoor

/-
  stillroomlaw21.long, slices.ContainsFunc with space.may$1: contracts over an unknown slice of texts.
-/
namespace Go.Proofs.YtgmljeeeomjooaaGreatDoor
open Go Go.RowKit Go.Q Go.Sort

set_option maxHeartbeats 1600000 in
set_option maxRecDepth 100000 in
/-- No text is too long. -/
theorem long_no (v : Value) (xs : List ByteArray) (hm : xs.length ≤ 1000) (hs : ∀ s ∈ xs, s.size ≤ 65536) (w : World) (hv : Slice w v xs) :
    Calls Tryz.prog 5 #[v] w fun e w' => e = .returned (.bool false) ∧ w = w' := by
  obtain ⟨sp, cp, rfl⟩ := hv.len
  have hlen' : (xs.length : Int) ≤ 1000 := by omega
  have hv' := Lib.hid hv
  clear hv
  go_enter Tryz.func5, Tryz.ntmps5
  go_wp2_with fail
  go_loopw [3] (fun i wr => ∃ k : Nat, k ≤ xs.length ∧ i = .int .i64 k ∧ wr = w) (fun i _ => xs.length - (intOf i).toNat)
  case atStart => exact ⟨0, Nat.zero_le _, rfl, rfl⟩
  case round =>
    obtain ⟨k, hk, rfl, rfl⟩ := hrel
    rcases Nat.lt_or_ge k xs.length with hlt | hge
    · obtain ⟨hxn, _⟩ | ⟨g, off, cap, he, hgl, hcells⟩ := hv'.out
      · rw [hxn] at hlt; exact absurd hlt (by simp)
      · injection he with he1 _ he3
        subst he1
        subst he3
        have hcell := hcells k hlt
        have hlti : (k : Int) < (xs.length : Int) := by omega
        have hsz : (xs[k].size : Int) ≤ 65536 := by have := hs _ (List.getElem_mem hlt); omega
        clear hcells
        go_wp2_with fail
        go_roundw
        case rel => exact ⟨k + 1, hlt, rfl, trivial⟩
        case measure => simp [intOf] <;> omega
    · obtain rfl : k = xs.length := by omega
      go_wp2_with fail
      go_ret
      exact ⟨rfl, rfl⟩

set_option maxHeartbeats 1600000 in
set_option maxRecDepth 100000 in
theorem may1_any (s : ByteArray) (w : World) (hs : s.size ≤ 65536) : Calls Tryz.prog 67 #[.string s] w fun e w' => e = .returned (.bool false) ∧ w = w' := by
  have hs' : (s.size : Int) ≤ 65536 := by omega
  go_enter Tryz.func67, Tryz.ntmps67
  go_wp2_with fail
  go_ret
  refine ⟨?_, rfl⟩
  simp [hs']

set_option maxHeartbeats 1600000 in
set_option maxRecDepth 100000 in
theorem indexFunc_no (v : Value) (xs : List ByteArray) (hm : xs.length ≤ 1000) (hs : ∀ s ∈ xs, s.size ≤ 65536) (w : World) (hv : Slice w v xs) :
    Calls Tryz.prog 134 #[v, .func (.func 67) #[] #[]] w fun e w' => e = .returned (.int .i64 (-1)) ∧ w = w' := by
  obtain ⟨sp, cp, rfl⟩ := hv.len
  have hlen' : (xs.length : Int) ≤ 1000 := by omega
  have hv' := Lib.hid hv
  clear hv
  go_enter Tryz.func134, Tryz.ntmps134
  go_wp2_with fail
  go_loopw [8] (fun i wr => ∃ k : Nat, k ≤ xs.length ∧ i = .int .i64 k ∧ wr = w) (fun i _ => xs.length - (intOf i).toNat)
  case atStart => exact ⟨0, Nat.zero_le _, rfl, rfl⟩
  case round =>
    obtain ⟨k, hk, rfl, rfl⟩ := hrel
    rcases Nat.lt_or_ge k xs.length with hlt | hge
    · obtain ⟨hxn, _⟩ | ⟨g, off, cap, he, hgl, hcells⟩ := hv'.out
      · rw [hxn] at hlt; exact absurd hlt (by simp)
      · injection he with he1 _ he3
        subst he1
        subst he3
        have hcell := hcells k hlt
        have hlti : (k : Int) < (xs.length : Int) := by omega
        have hmay := may1_any xs[k] wr (hs _ (List.getElem_mem hlt))
        clear hcells
        go_wp2_with fail
        go_at_call 67
        refine hmay.mono ?_
        rintro e w' ⟨rfl, rfl⟩
        go_wp2_with fail
        go_roundw
        case rel => exact ⟨k + 1, hlt, rfl, trivial⟩
        case measure => simp [intOf] <;> omega
    · obtain rfl : k = xs.length := by omega
      go_wp2_with fail
      go_ret
      exact ⟨rfl, rfl⟩

set_option maxHeartbeats 1600000 in
set_option maxRecDepth 100000 in
theorem contains_no (v : Value) (xs : List ByteArray) (hm : xs.length ≤ 1000) (hs : ∀ s ∈ xs, s.size ≤ 65536) (w : World) (hv : Slice w v xs) :
    Calls Tryz.prog 66 #[v, .func (.func 67) #[] #[]] w fun e w' => e = .returned (.bool false) ∧ w = w' := by
  have h := indexFunc_no v xs hm hs w hv
  clear hv
  go_enter Tryz.func66, Tryz.ntmps66
  go_wp2_with fail
  go_at_call 134
  refine h.mono ?_
  rintro e w' ⟨rfl, rfl⟩
  go_wp2_with fail
  go_ret
  exact ⟨rfl, rfl⟩

/-- A value of kind list. -/
def listVal (v : Value) : Value := .agg #[.int .u8 2, .string ⟨#[]⟩, v, .slice none 0 0, .slice none 0 0, .slice none 0 0, .slice none 0 0, .int .u64 0, .int .u64 0]

set_option maxHeartbeats 3200000 in
set_option maxRecDepth 100000 in
theorem may_list (v : Value) (xs : List ByteArray) (hpos : 0 < xs.length) (hm : xs.length ≤ 1000) (hs : ∀ s ∈ xs, s.size ≤ 65536) (w : World) (hv : Slice w v xs) :
    Calls Tryz.prog 21 #[listVal v] w fun e w' => e = .returned (.bool true) ∧ Below w.heap.size w w' := by
  unfold listVal
  obtain ⟨sp, cp, rfl⟩ := hv.len
  have hc := fun w' (hw : Below w.heap.size w w') => contains_no _ xs hm hs w' (hv.below hw (Nat.le_refl _))
  have hp' : (0 : Int) < (xs.length : Int) := by omega
  have hm' : (xs.length : Int) ≤ 1000 := by omega
  clear hv
  generalize xs.length = n at *
  go_enter Tryz.func21, Tryz.ntmps21
  go_wp2_with fail
  have hb2 : Below w.heap.size w ((w.alloc (.cells #[.int .u8 2, .string ⟨#[]⟩, .slice sp n cp, .slice none 0 0, .slice none 0 0, .slice none 0 0, .slice none 0 0, .int .u64 0, .int .u64 0] 57)).alloc (.cells #[.int .u8 2, .string ⟨#[]⟩, .slice none 0 0, .slice none 0 0, .slice none 0 0, .slice none 0 0, .slice none 0 0, .int .u64 0, .int .u64 0] 57)) := ((Below.refl _ w).alloc (Nat.le_refl _) _).alloc (by simp) _
  go_at_call 66
  refine (hc _ hb2).mono ?_
  rintro e w' ⟨rfl, rfl⟩
  go_wp2_with fail
  go_ret
  exact ⟨rfl, hb2⟩

end Go.Proofs.YtgmljeeeomjooaaGreatDoor

/-
  (*reply.Call).Told: contract over an unknown command.
-/
namespace Go.Q
open Go Go.RowKit

theorem strs_row {w : World} {B g n cap : Nat} {xs : List ByteArray} (h : w.ownsRow B 9 1 (.slice (some ⟨g, 0, none⟩) n cap) n (strs xs)) : n = xs.length ∧ B ≤ g ∧ cap ≤ maxLen ∧ ∃ r, Row w g 9 (strs xs ++ r) ∧ cap = xs.length + r.length := by
  obtain ⟨h0, h1 | ⟨g', cap', cur, h2, h3, h4, h5, h6, h7, h8⟩⟩ := h
  · cases h1.1
  · cases h2
    have hn : n = xs.length := by simpa [strs] using h0.symm
    refine ⟨hn, h3, h6, cur.toList.drop n, ?_, ?_⟩
    · unfold Row
      rw [h4, ← h8, Nat.mul_one, List.take_append_drop]
    · simp [h7]; omega
theorem row_strs {w : World} {B g cap : Nat} {xs : List ByteArray} (hB : B ≤ g) {r : List Value} (h : Row w g 9 (strs xs ++ r)) (hc : cap = xs.length + r.length) (hm : cap ≤ maxLen) : w.ownsRow B 9 1 (.slice (some ⟨g, 0, none⟩) xs.length cap) xs.length (strs xs) := by
  refine ⟨by simp [strs], .inr ⟨g, cap, _, rfl, hB, h, by omega, hm, by simp [strs, hc], by simp [strs]⟩⟩

end Go.Q
namespace Go.Proofs.YtgmljeeeomjooaaGreatDoor
open Go Go.RowKit Go.Q Go.Sort

set_option maxHeartbeats 3200000 in
set_option maxRecDepth 100000 in
theorem told_any (c : Nat) (s0 x0 x1 x2 : Value) (v : Value) (nm : ByteArray) (xs : List ByteArray) (hpos : 0 < xs.length) (hm : xs.length ≤ 1100) (w : World) (hc : Row w c 71 [s0, x0, x1, x2, v, .string nm]) (hv : Slice w v xs)
    (hclone : ∀ w', Calls Tryz.prog 213 #[.string nm] w' fun e w'' => e = .returned (.string nm) ∧ Below w'.heap.size w' w'') :
    Calls Tryz.prog 166 #[.pointer (some ⟨c, 0, none⟩)] w fun e w' => ∃ u, e = .returned u ∧ w'.ownsRow w.heap.size 9 1 u xs.length (strs (nm :: xs.drop 1)) ∧ Below w.heap.size w w' := by
  obtain ⟨i0, hi, hz0, hz1, hz2⟩ := info_parts info9
  obtain ⟨g, off, cap, rfl, hgl, hcells⟩ : ∃ g off cap, v = .slice (some ⟨g, off, none⟩) xs.length cap ∧ g < w.heap.size ∧ ∀ k (h : k < xs.length), w.cell? ⟨g, off + k, none⟩ = some (.string xs[k]) := by
    rcases hv with ⟨h, _⟩ | h
    · rw [h] at hpos; exact absurd hpos (by simp)
    · exact h
  have c4 := hc.cell (i := 4) rfl
  have N1 : (strs xs).length = xs.length * 1 := by simp [strs]
  have N2 : ∀ j u, (strs xs)[j]? = some u → w.cell? ((⟨g, off, none⟩ : Addr).add j) = some u := fun j u hj => by
    have hj' : j < xs.length := by have := (List.getElem?_eq_some_iff.1 hj).1; simpa [strs] using this
    have h2 := hcells j hj'
    simp only [strs, List.getElem?_map, List.getElem?_eq_getElem hj', Option.map_some, Option.some.injEq] at hj
    rw [← hj, ← h2, Addr.add_lit]
  have N3 : ∀ u ∈ strs xs, u.oneCell' = true := fun u hu => by
    simp only [strs, List.mem_map] at hu
    obtain ⟨x, _, rfl⟩ := hu
    rfl
  have N2' := Lib.hid N2
  have hc' := Lib.hid hc
  have hcl := hc.lt
  clear N2 hv hcells hc
  go_enter Tryz.func166, Tryz.ntmps166
  go_wp2_with (at_builtin; refine wpList_append_own _ rfl _ _ 42 rfl w.heap.size 9 i0 (.string ⟨#[]⟩) 1 16 Tryz.underlying42 hi hz0 hz1 hz2 rfl (by decide) _ 0 [] rfl (World.ownsRow_nil _ _ _ _) ⟨g, off, none⟩ xs.length cap (strs xs) rfl N1 N2'.out N3 (by unfold maxLen; omega) (by omega) (Nat.le_refl _) ?_; intro v' w2 hown' hgrow _; have hg2 : w.grownBy w2 none := hgrow; have c5 := (hc'.out.only ((Only.refl (fun _ => False) w).grown hg2 (fun k e => by cases e)) (fun h => h)).cell (i := 5) rfl)
  have hb2 : Below w.heap.size w w2 := (Below.refl _ w).grown hg2 (Nat.le_refl _) (fun k e => by cases e)
  obtain ⟨g', cap', rfl⟩ : ∃ g' cap', v' = .slice (some ⟨g', 0, none⟩) xs.length cap' := by
    obtain ⟨_, ⟨_, h0⟩ | ⟨g, cap, _, rfl, _⟩⟩ := hown'
    · omega
    · exact ⟨g, cap, by simp⟩
  have hown2 : w2.ownsRow w.heap.size 9 1 (.slice (some ⟨g', 0, none⟩) xs.length cap') xs.length (strs xs) := by simpa using hown'
  obtain ⟨_, hgB, hcm, r, hrow, rfl⟩ := strs_row hown2
  have hrow' := Lib.hid hrow
  have hpos' : (0 : Int) < (xs.length : Int) := by omega
  have hcl2 := hclone w2
  clear hown' hown2 hgrow hrow hclone N1 N2' N3
  go_at_call 213
  refine hcl2.mono ?_
  rintro e w3 ⟨rfl, hb3⟩
  have hr3 := row_below hrow'.out hb3 (Nat.le_refl _)
  obtain ⟨y, ys, hxs⟩ : ∃ y ys, xs = y :: ys := by
    cases xs with
    | nil => simp at hpos
    | cons y ys => exact ⟨y, ys, rfl⟩
  have hg0 : w3.cell? ⟨g', 0, none⟩ = some (.string y) := hr3.cell (i := 0) (by rw [hxs]; rfl)
  have hf0 := hr3.free 0
  have hr3' := Lib.hid hr3
  have hxs' := Lib.hid hxs
  clear hr3 hxs hcl2
  go_wp2_with fail
  go_ret
  have hset := hr3'.out.set 0 (.string nm)
  have hfin : (w3.setCell ⟨g', 0, none⟩ (.string nm)).ownsRow w.heap.size 9 1 (.slice (some ⟨g', 0, none⟩) (nm :: xs.drop 1).length (xs.length + r.length)) (nm :: xs.drop 1).length (strs (nm :: xs.drop 1)) := by
    refine row_strs (r := r) hgB ?_ ?_ hcm
    · have e : (strs xs ++ r).set 0 (.string nm) = strs (nm :: xs.drop 1) ++ r := by rw [hxs'.out]; simp [strs]
      rw [← e]
      exact hset
    · simp; omega
  have hl : (nm :: xs.drop 1).length = xs.length := by simp; omega
  rw [hl] at hfin
  have hsz := hb2.size
  exact ⟨_, rfl, hfin, (hb2.trans (hb3.mono (by omega))).setCell (p := ⟨g', 0, none⟩) hgB _⟩

end Go.Proofs.YtgmljeeeomjooaaGreatDoor

/-
  table.Check of rpush with unknown words: contract.
-/
namespace Go.Proofs.YtgmljeeeomjooaaGreatDoor
open Go Go.RowKit Go.Q Go.Sort

theorem results_cell_tmp {P : Program} {fn : Func} {p q : Tmp} {ty : TypeId} (h : fn.results = #[.cell p ty, .tmp q]) (tmps : Array Value) (w : World) (g : Nat) (t : TypeId) (cs : Array Value) (fr : Nat × Nat) (d : TypeDesc)
    (hp : tmps.getD p undef = .pointer (some ⟨g, 0, none⟩)) (hg : w.heap[g]? = some (.cells cs t fr))
    (hu : P.underlying ty = some d) (hd : (match d with | .struct _ | .array _ _ => true | _ => false) = true) (hi : (P.info? ty).map (·.size) = some cs.size) :
    (results fn tmps).run P w = .ok (.tuple #[.agg cs, tmps.getD q undef]) w := by
  have hp' : tmps[p]?.getD undef = .pointer (some ⟨g, 0, none⟩) := by simpa using hp
  simp [results, h, hp', asAddr, run_loadVar_row w g t ty cs fr d hg hu hd hi]
theorem size33 : (Tryz.prog.info? 33).map (·.size) = some 4 := by kernel_rfl

/-- rpush's row. -/
def rpushSpec : Value := .agg #[.string ⟨#[114, 112, 117, 115, 104]⟩, .int .i64 3, .int .i64 1024, .bool true, .bool true, .int .i64 1, .int .i64 1, .bool true, .int .i64 21]

set_option maxHeartbeats 3200000 in
set_option maxRecDepth 100000 in
theorem check_rpush (v : Value) (cs : List ByteArray) (ws : List ByteArray) (hcs : cs = ⟨#[114, 112, 117, 115, 104]⟩ :: ws) (hl : 3 ≤ cs.length) (hm : cs.length ≤ 1024) (hs : ∀ s ∈ cs, s.size ≤ 65536) (w : World) (hv : Slice w v cs)
    (hfind : ∀ w', Calls Tryz.prog 31 #[.string ⟨#[114, 112, 117, 115, 104]⟩] w' fun e w'' => e = .returned (.tuple #[rpushSpec, .bool true]) ∧ Below w'.heap.size w' w'') :
    Calls Tryz.prog 30 #[v] w fun e w' => e = .returned (.tuple #[.agg #[.int .u8 0, .string ⟨#[]⟩, .int .i64 0, .slice none 0 0], .bool false]) ∧ Below w.heap.size w w' := by
  unfold rpushSpec at hfind
  obtain ⟨g, off, cap, rfl, hgl, hcells⟩ : ∃ g off cap, v = .slice (some ⟨g, off, none⟩) cs.length cap ∧ g < w.heap.size ∧ ∀ k (h : k < cs.length), w.cell? ⟨g, off + k, none⟩ = some (.string cs[k]) := by
    rcases hv with ⟨h, _⟩ | h
    · rw [h] at hcs; exact absurd hcs (by simp)
    · exact h
  have hl' : (3 : Int) ≤ (cs.length : Int) := by omega
  have hm' : (cs.length : Int) ≤ 1024 := by omega
  have hc0 : w.cell? ⟨g, off, none⟩ = some (.string ⟨#[114, 112, 117, 115, 104]⟩) := by have := hcells 0 (by omega); simpa [hcs] using this
  have hcells' := Lib.hid hcells
  have hcs' := Lib.hid hcs
  have b2 := Boxed.new w 33
  have hb1 : Below w.heap.size w (w.alloc (.cells #[.int .u8 0, .string ⟨#[]⟩, .int .i64 0, .slice none 0 0] 33)) := (Below.refl _ w).alloc (Nat.le_refl _) _
  have hrow0 := Row.new w 33 [.int .u8 0, .string ⟨#[]⟩, .int .i64 0, .slice none 0 0]
  have hf := hfind (w.alloc (.cells #[.int .u8 0, .string ⟨#[]⟩, .int .i64 0, .slice none 0 0] 33))
  clear hv hcells hcs b2 hfind
  go_enter Tryz.func30, Tryz.ntmps30
  go_wp2_with fail
  go_at_call 31
  refine hf.mono ?_
  rintro e w2 ⟨rfl, hb2⟩
  have hb12 := b_call hb2 hb1
  have hrow2 := Lib.hid (row_below hrow0 hb2 (Nat.le_refl _))
  clear hf hb2 hrow0
  go_wp2_with fail
  go_loopw [66] (fun i wr => ∃ k : Nat, k ≤ cs.length ∧ i = .int .i64 k ∧ Below w.heap.size w wr ∧ Row wr w.heap.size 33 [.int .u8 0, .string ⟨#[]⟩, .int .i64 0, .slice none 0 0]) (fun i _ => cs.length - (intOf i).toNat)
  case atStart => exact ⟨0, Nat.zero_le _, rfl, hb12.alloc hb12.size _, hrow2.out.alloc _⟩
  case round =>
    obtain ⟨k, hk, rfl, hb, hr⟩ := hrel
    rcases Nat.lt_or_ge k cs.length with hlt | hge
    · have hcell : wr.cell? ⟨g, off + k, none⟩ = some (.string cs[k]) := (hb.cell (p := ⟨g, off + k, none⟩) hgl).trans (hcells'.out k hlt)
      have hlti : (k : Int) < (cs.length : Int) := by omega
      have hsz : (cs[k].size : Int) ≤ 65536 := by have := hs _ (List.getElem_mem hlt); omega
      have hr' := Lib.hid hr
      clear hr
      go_wp2_with fail
      go_roundw
      case rel => exact ⟨k + 1, hlt, rfl, hb, hr'.out⟩
      case measure => simp [intOf] <;> omega
    · obtain rfl : k = cs.length := by omega
      have d0 := hr.cell (i := 0) rfl
      have d1 := hr.cell (i := 1) rfl
      have d2 := hr.cell (i := 2) rfl
      have d3 := hr.cell (i := 3) rfl
      have f0 := hr.free 0
      have f1 := hr.free 1
      have f2 := hr.free 2
      have f3 := hr.free 3
      have hr' := Lib.hid hr
      clear hr
      go_wp2_with fail
      try simp only [Exit.inBlock, Exit.then]
      have hR := (((hr'.out.set 0 (.int .u8 0)).set 1 (.string ⟨#[]⟩)).set 2 (.int .i64 0)).set 3 (.slice none 0 0)
      refine bodyPost_ret (results_cell_tmp (P := Tryz.prog) rfl _ _ w.heap.size 33 #[.int .u8 0, .string ⟨#[]⟩, .int .i64 0, .slice none 0 0] (0, 0) _ rfl hR Tryz.underlying33 rfl size33) rfl ⟨rfl, ?_⟩
      exact (((hb.setCell (p := ⟨w.heap.size, 0, none⟩) (Nat.le_refl _) _).setCell (p := ⟨w.heap.size, 1, none⟩) (Nat.le_refl _) _).setCell (p := ⟨w.heap.size, 2, none⟩) (Nat.le_refl _) _).setCell (p := ⟨w.heap.size, 3, none⟩) (Nat.le_refl _) _

end Go.Proofs.YtgmljeeeomjooaaGreatDoor
