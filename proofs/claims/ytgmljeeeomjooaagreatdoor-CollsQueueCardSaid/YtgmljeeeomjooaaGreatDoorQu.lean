/-
  colls.rows: its first four rows; answers by the evaluator.
-/
import Derived.Test.YtgmljeeeomjooaaGreatDoorQn
import Derived.Test.YtgmljeeeomjooaaGreatDoorQt
set_option linter.all false
/-
  colls.rows: its first four rows; answers by the evaluator.
-/
namespace Go.Ev
/-- What lies behind a function's one captured pointer. -/
noncomputable def capOf (H : Heap) : Value → Option AObj
  | .func _ _ ⟨[.pointer (some ⟨c, 0, none⟩)]⟩ => H.get c
  | _ => none
/-- A slice's first cells, and what lies behind the functions' captured pointers. -/
noncomputable def headOf (n : Nat) : Option (Value × Heap × Nat) → Option (List Value × List (Option AObj))
  | some (.slice (some ⟨b, 0, none⟩) 24 24, H, _) => match H.get b with
    | some (.cells cs 69 none _) => some (cs.take n, (cs.take n).map (capOf H))
    | _ => none
  | _ => none
theorem headOf_inv {n : Nat} {r : Option (Value × Heap × Nat)} {cs : List Value} {fs : List (Option AObj)} (h : headOf n r = some (cs, fs)) :
    ∃ b H c full str, r = some (.slice (some ⟨b, 0, none⟩) 24 24, H, c) ∧ H.get b = some (.cells full 69 none str) ∧ full.take n = cs ∧ cs.map (capOf H) = fs := by
  unfold headOf at h
  split at h
  · rename_i b H c
    split at h
    · rename_i full str hb
      cases h
      exact ⟨b, H, c, full, str, rfl, hb, rfl, rfl⟩
    · cases h
  · cases h
end Go.Ev
namespace Go.Proofs.YtgmljeeeomjooaaGreatDoor
open Go Go.RowKit Go.Q

/-- The first four rows: lpush, rpush, lpop, rpop. -/
def rowsH (a b c d : Nat) : List Value := [.string ⟨#[108, 112, 117, 115, 104]⟩, .int .u8 2, .func (.func 33) #[] #[.pointer (some ⟨a, 0, none⟩)], .string ⟨#[114, 112, 117, 115, 104]⟩, .int .u8 2, .func (.func 33) #[] #[.pointer (some ⟨b, 0, none⟩)],
  .string ⟨#[108, 112, 111, 112]⟩, .int .u8 2, .func (.func 36) #[] #[.pointer (some ⟨c, 0, none⟩)], .string ⟨#[114, 112, 111, 112]⟩, .int .u8 2, .func (.func 36) #[] #[.pointer (some ⟨d, 0, none⟩)]]
def boxB (b : Bool) : Option Ev.AObj := some (.cells [.bool b] 4 none false)

theorem rows_run : Ev.headOf 12 (Ev.callF (Ev.Cx.sy Tryz.prog 5000 [] []) 3000 (.fn 14 []) .nil 5000) = some (rowsH 5006 5013 5020 5027, [none, none, boxB true, none, none, boxB false, none, none, boxB true, none, none, boxB false]) := by kernel_rfl

theorem func_inv {ρ : Ev.Rn} {f n : Nat} {v : Value} {b : Bool} {H : Ev.Heap} {w : World} (hw : Ev.WRel ρ H w) (hb : H.get n = boxB b) (h : Ev.VRel ρ (.func (.func f) #[] #[.pointer (some ⟨n, 0, none⟩)]) v) :
    ∃ x, v = .func (.func f) #[] #[.pointer (some ⟨x, 0, none⟩)] ∧ w.cell? ⟨x, 0, none⟩ = some (.bool b) := by
  cases h with
  | func hfn h1 h2 h3 h4 =>
    rename_i fn' f' c'
    cases hfn
    have hf' : f' = #[] := Array.eq_empty_of_size_eq_zero (by simpa using h1.symm)
    subst hf'
    have hc1 : c'.size = 1 := by simpa using h2.symm
    obtain ⟨y, hy⟩ : ∃ y, c' = #[y] := by
      refine ⟨c'[0], Array.ext (by simp [hc1]) fun i hi1 hi2 => ?_⟩
      have : i = 0 := by omega
      subst this
      simp
    subst hy
    have hy := h4 0 _ _ rfl rfl
    obtain ⟨a', L, rfl, g1, g2, g3, g4⟩ := hy.unptr
    obtain ⟨L', o', k1, k2, k3⟩ := hw.obj n _ hb
    rw [g1] at k1
    cases k1
    cases o' with
    | cells cs' el' fz =>
      simp only [Ev.ORel] at k3
      obtain ⟨_, _, k4, _, _, _, k5⟩ := k3
      have hz := k5 trivial
      obtain ⟨v', hv', hr⟩ := k4 0 _ rfl
      obtain rfl := hr.unbool
      obtain ⟨b1, o1, sp1⟩ := a'
      simp only at g2 g3 g4
      rw [hz] at g3 hv'
      subst g2 g3 g4
      exact ⟨L.block, rfl, by simpa [World.cell?, k2] using hv'⟩
    | _ => simp only [Ev.ORel] at k3

set_option maxRecDepth 100000 in
theorem rows_row (w : World) : Calls Tryz.prog 14 #[] w fun e w' => ∃ r a b c d, e = .returned (.slice (some ⟨r, 0, none⟩) 24 24) ∧ (∀ (i : Nat) v, (rowsH a b c d)[i]? = some v → w'.cell? ⟨r, i, none⟩ = some v) ∧ r < w'.heap.size ∧
    w'.cell? ⟨a, 0, none⟩ = some (.bool true) ∧ w'.cell? ⟨b, 0, none⟩ = some (.bool false) ∧ w'.cell? ⟨c, 0, none⟩ = some (.bool true) ∧ w'.cell? ⟨d, 0, none⟩ = some (.bool false) ∧ Below w.heap.size w w' := by
  obtain ⟨b, H', c', full, str, hrun, hb, htake, hcap⟩ := Ev.headOf_inv rows_run
  rw [Ev.callF_eq] at hrun
  have ok : (Ev.Cx.sy Tryz.prog 5000 [] []).Ok := Ev.Cx.sy_ok mixedQ (by intro en he; cases he)
  have hbd : Tryz.f14.body.isSome = true := by kernel_rfl
  obtain ⟨bd, hbd⟩ := Option.isSome_iff_exists.1 hbd
  refine (Ev.calls_of ok hrun Tryz.func14 hbd (.nil _) (Ev.WRel.nothing (Ev.globS_warm _ _ _) w) (Ev.globS_below fewQ (Nat.le_refl _)) (Ev.globS_rel fewQ)).mono ?_
  rintro e w' ⟨ρ', v', rfl, hvr, hgo⟩
  unfold rowsH at hcap
  simp only [List.map_cons, List.map_nil, Ev.capOf, List.cons.injEq, and_true, true_and] at hcap
  obtain ⟨q1, q2, q3, q4⟩ := hcap
  obtain ⟨L, o', hL, ho, hrel⟩ := hgo.rel.obj b _ hb
  cases hvr with
  | slice h1 h2 h3 h3' h4 =>
    rename_i a' cap' L3
    rw [hL] at h1
    cases h1
    cases o' with
    | cells cs' el' fz =>
      simp only [Ev.ORel] at hrel
      obtain ⟨_, k1, k2, _, _, _, k3⟩ := hrel
      have hz := k3 trivial
      unfold Ev.SlRel at h4
      rw [show L.opn = none by simpa using k1] at h4
      obtain ⟨h5, rfl⟩ := h4
      rw [hz] at h5
      obtain ⟨b1, o1, sp1⟩ := a'
      simp only at h2 h3' h5
      subst h2 h3' h5
      have at' : ∀ (i : Nat) v, (rowsH 5006 5013 5020 5027)[i]? = some v → ∃ v', w'.cell? ⟨L.block, i, none⟩ = some v' ∧ Ev.VRel ρ' v v' := fun i v hi => by
        rw [← htake, List.getElem?_take] at hi
        split at hi
        · obtain ⟨v', hv', hr⟩ := k2 i v hi
          rw [hz] at hv'
          exact ⟨v', by simpa [World.cell?, ho] using hv', hr⟩
        · cases hi
      have scal : ∀ (i : Nat) v, (rowsH 5006 5013 5020 5027)[i]? = some v → Ev.clos v = true → w'.cell? ⟨L.block, i, none⟩ = some v := fun i v hi hc => by
        obtain ⟨v', hv', hr⟩ := at' i v hi
        rw [Ev.clos_eq hr hc] at hv'
        exact hv'
      obtain ⟨v2, c2, r2⟩ := at' 2 _ rfl
      obtain ⟨v5, c5, r5⟩ := at' 5 _ rfl
      obtain ⟨v8, c8, r8⟩ := at' 8 _ rfl
      obtain ⟨v11, c11, r11⟩ := at' 11 _ rfl
      obtain ⟨x2, rfl, y2⟩ := func_inv hgo.rel q1 r2
      obtain ⟨x5, rfl, y5⟩ := func_inv hgo.rel q2 r5
      obtain ⟨x8, rfl, y8⟩ := func_inv hgo.rel q3 r8
      obtain ⟨x11, rfl, y11⟩ := func_inv hgo.rel q4 r11
      refine ⟨L.block, x2, x5, x8, x11, rfl, fun i v hi => ?_, (Array.getElem?_eq_some_iff.1 ho).1, y2, y5, y8, y11, hgo.below⟩
      rcases i with _ | _ | _ | _ | _ | _ | _ | _ | _ | _ | _ | _ | i
      · cases hi; exact scal 0 _ rfl rfl
      · cases hi; exact scal 1 _ rfl rfl
      · cases hi; exact c2
      · cases hi; exact scal 3 _ rfl rfl
      · cases hi; exact scal 4 _ rfl rfl
      · cases hi; exact c5
      · cases hi; exact scal 6 _ rfl rfl
      · cases hi; exact scal 7 _ rfl rfl
      · cases hi; exact c8
      · cases hi; exact scal 9 _ rfl rfl
      · cases hi; exact scal 10 _ rfl rfl
      · cases hi; exact c11
      · cases hi
    | _ => simp only [Ev.ORel] at hrel

end Go.Proofs.YtgmljeeeomjooaaGreatDoor

/-
  (colls.call).pop of a key that has a list.
-/
namespace Go.Q
open Go Go.RowKit

/-- What a space has behind a pop: the list of what is left, or nothing. -/
def Remains (w : World) (p : Pl) (m k : Nat) (xs : List ByteArray) : Prop :=
  (xs = [] ∧ SpaceAt w p 0 (some m)) ∨ (0 < xs.length ∧ SpaceAt w p 1 (some m) ∧ ∃ l, KeptAt w p.t m k l ∧ ListAt Filled w 10 l xs)
theorem Remains.below {w w' : World} {p : Pl} {m k : Nat} {xs : List ByteArray} (h : Remains w p m k xs) (hb : Below w.heap.size w w') : Remains w' p m k xs := by
  rcases h with ⟨h1, h2⟩ | ⟨h1, h2, l, h3, h4⟩
  · exact .inl ⟨h1, h2.below hb (Nat.le_refl _)⟩
  · exact .inr ⟨h1, h2.below hb (Nat.le_refl _), l, h3.below hb (Nat.le_refl _), h4.below hb (Nat.le_refl _)⟩
theorem Remains.eff {w w' : World} {p : Pl} {m k b : Nat} {xs : List ByteArray} {cs : List Value} (h : Remains w p m k xs) (hm : m ≠ b) (hr : Row w b 36 cs) (ho : Only (· = b) w w') : Remains w' p m k xs := by
  have key : ∀ {x t : Nat} {ds : List Value}, Row w x t ds → t ≠ 36 → x ≠ b := fun h1 h2 e => by
    rw [e] at h1
    exact h2 (h1.eq hr).2
  rcases h with ⟨h1, h2⟩ | ⟨h1, h2, l, h3, h4⟩
  · obtain ⟨r, hg⟩ := h2.dbs
    exact .inl ⟨h1, h2.only ho (key h2.cell (by decide)) (key hg (by decide)) (key h2.dict.cell (by decide)) (key h2.dict.tab (by decide))⟩
  · obtain ⟨a, b, c⟩ := state_eff h2 h3 h4 hr ho
    exact .inr ⟨h1, a, l, b, c⟩
theorem owns_zero {w : World} {B : Nat} {u : Value} {cs : List Value} (h : w.ownsRow B 9 1 u 0 cs) : ∃ sp c, u = .slice sp 0 c := by
  rcases h.2 with ⟨rfl, _⟩ | ⟨g, cap, cur, rfl, _⟩ <;> exact ⟨_, _, rfl⟩

end Go.Q
namespace Go.Proofs.YtgmljeeeomjooaaGreatDoor
open Go Go.RowKit Go.Q Go.Sort

set_option maxHeartbeats 3200000 in
set_option maxRecDepth 100000 in
theorem pop_any (front : Bool) (c g off cap : Nat) (p : Pl) (m k l0 : Nat) (v : Value) (xs : List ByteArray) (hpos : 0 < xs.length) (hm : xs.length ≤ 1000) (hitems : ∀ s ∈ xs, s.size ≤ 65536) (w : World) (hv : Slice w v xs) (hG : Glob w)
    (h : SpaceAt w p 1 (some m)) (hk : KeptAt w p.t m k l0) (hL : ListAt Filled w 10 l0 xs) (hgav : g ≠ m ∧ g ≠ p.d ∧ g ≠ k) (hC : Slice w (.slice (some ⟨g, off, none⟩) 2 cap) [popT front, keyL])
    (hc : Row w c 71 [.pointer (some ⟨p.s, 0, none⟩), .int .i64 0, .int .i64 0, .int .u32 0, .slice (some ⟨g, off, none⟩) 2 cap, .string (popT front)]) :
    Calls Tryz.prog 37 #[callVal 2 c v true, .bool front] w fun e w' => ∃ u1 n1 c1 u2 n2 c2, e = .returned (.agg #[.int .u8 4, .string (xs.getD (popAt front xs.length) ⟨#[]⟩), .int .i64 0, .slice none 0 0, .slice u1 n1 c1, .slice u2 n2 c2]) ∧
      Remains w' p m k (rest front xs) ∧ Only (fun x => x = m ∨ x = p.d ∨ x = k) w w' := by
  obtain ⟨hgl, hkey⟩ : g < w.heap.size ∧ w.cell? ⟨g, off + 1, none⟩ = some (.string ⟨#[108]⟩) := by
    rcases hC with ⟨h0, _⟩ | ⟨g', off', cap', he, h1, h2⟩
    · cases h0
    · injection he with he1 _ he3
      injection he1 with he4
      injection he4 with he5 he6
      subst he5 he6
      exact ⟨h1, h2 1 (by simp)⟩
  have hml := hk.one.lt
  have hkl := hk.kept.lt
  have hdl := h.dict.cell.lt
  have hcm : c ≠ m := fun e => hk.one.ne hc e.symm
  have hcd : c ≠ p.d := fun e => by have h1 := hc; rw [e] at h1; exact absurd (h1.eq h.dict.cell).2 (by decide)
  have hck : c ≠ k := fun e => by have h1 := hc; rw [e] at h1; exact absurd (h1.eq hk.kept).2 (by decide)
  have hrl : (rest front xs).length ≤ 1000 := by unfold rest; split <;> simp <;> omega
  have hri : ∀ s ∈ rest front xs, s.size ≤ 65536 := fun s hs => hitems s (by
    unfold rest at hs
    split at hs
    · exact List.mem_of_mem_drop hs
    · exact List.mem_of_mem_take hs)
  refine pop_walk front c true v xs hpos hm hitems w hv hG _ ⟨#[108]⟩ _ _ _ _ _ g off cap 2 rfl (by omega) hkey hgl hc _ (fun w' => Remains w' p m k (rest front xs) ∧ Only (fun x => x = m ∨ x = p.d ∨ x = k) w w') ?_ ?_ ?_
  · intro w' u hw hu
    have hframe : ∀ {S : Nat → Prop} {w'' : World}, Only S w' w'' → (∀ x, S x → x = m ∨ x = p.d ∨ x = k) → (∀ x, w.heap.size ≤ x → x < w'.heap.size → w''.heap[x]? = w'.heap[x]?) := fun ho hS x hx hx2 => ho.block x hx2 (fun e => by
      rcases hS x e with e | e | e <;> omega)
    by_cases hx : (rest front xs).length = 0
    · rw [hx] at hu
      obtain ⟨sp, cp, rfl⟩ := owns_zero hu
      refine (store_gone c _ _ p m k l0 sp cp w' (h.below hw (Nat.le_refl _)) (hk.below hw (Nat.le_refl _)) (row_below hc hw (Nat.le_refl _))).mono ?_
      rintro e w'' ⟨rfl, hS, ho⟩
      refine ⟨rfl, hframe ho (fun x e => by rcases e with e | e; exact .inl e; exact .inr (.inl e)), ho.size, .inl ⟨List.length_eq_zero_iff.1 hx, hS⟩, ?_⟩
      exact (Only.of_below (S := fun x => x = m ∨ x = p.d ∨ x = k) hw).trans (ho.mono fun x _ e => by rcases e with e | e; exact .inl e; exact .inr (.inl e))
    · have hp : 0 < (rest front xs).length := by omega
      refine (store_again c _ _ p m k l0 u (rest front xs) hp hrl hri w' (h.below hw (Nat.le_refl _)) (hk.below hw (Nat.le_refl _)) Filled 10 xs hm (hL.below hw (Nat.le_refl _)) (Slice.of_owns hu) (hG.below hw hG.size) (row_below hc hw (Nat.le_refl _))).mono ?_
      rintro e w'' ⟨rfl, l, hK, hL', ho⟩
      have hks : p.s ≠ k := fun e => by have h1 := h.cell; rw [e] at h1; exact absurd (h1.eq hk.kept).2 (by decide)
      have hkd : p.d ≠ k := fun e => by have h1 := h.dict.cell; rw [e] at h1; exact absurd (h1.eq hk.kept).2 (by decide)
      have hkt : p.t ≠ k := fun e => by have h1 := h.dict.tab; rw [e] at h1; exact absurd (h1.eq hk.kept).2 (by decide)
      have hkg : p.g ≠ k := fun e => by obtain ⟨r, h1⟩ := h.dbs; rw [e] at h1; exact absurd (h1.eq hk.kept).2 (by decide)
      refine ⟨rfl, hframe ho (fun x e => .inr (.inr e)), ho.size, .inr ⟨hp, (h.below hw (Nat.le_refl _)).only ho hks hkg hkd hkt, l, hK, hL'⟩, ?_⟩
      exact (Only.of_below (S := fun x => x = m ∨ x = p.d ∨ x = k) hw).trans (ho.mono fun x _ e => .inr (.inr e))
  · intro a b ⟨h1, h2⟩ hb
    exact ⟨h1.below hb, h2.trans (Only.of_below hb)⟩
  · intro w' cs ⟨h1, h2⟩ hE
    have hcr := hc.only h2 (fun e => by rcases e with e | e | e; exact hcm e; exact hcd e; exact hck e)
    have hgn : ¬ (g = m ∨ g = p.d ∨ g = k) := fun e => by rcases e with e | e | e; exact hgav.1 e; exact hgav.2.1 e; exact hgav.2.2 e
    have hkey' := (h2.cell (p := ⟨g, off + 1, none⟩) hgl hgn).trans hkey
    have hC' : Slice w' (.slice (some ⟨g, off, none⟩) 2 cap) [popT front, keyL] := hC.only h2 (fun sp n' c' he e => by
      injection he with he1 _ _
      injection he1 with he4
      subst he4
      exact hgn e)
    have hgl' := Nat.lt_of_lt_of_le hgl h2.size
    refine (did_any c _ _ _ _ _ _ 4 _ 0 g off cap 2 rfl (by omega) _ rfl w' hkey' hgl' hcr [popT front, keyL] (by simp)
      (fun w'' hw' => told_any c _ _ _ _ _ (popT front) [popT front, keyL] (by simp) (by simp) w'' (row_below hcr hw' (Nat.le_refl _)) (hC'.below hw' (Nat.le_refl _)) (fun w => clone_pop front w))).mono ?_
    rintro e w'' ⟨u1, n1, c1, u2, n2, c2, rfl, hb⟩
    refine ⟨u1, n1, c1, u2, n2, c2, rfl, fun x hx hx2 => hb.block x hx2, hb.size, fun w6 ho => ?_⟩
    refine ⟨u1, n1, c1, u2, n2, c2, rfl, (h1.below hb).eff (by omega) (row_below hE hb (Nat.le_refl _)) ho, ?_⟩
    exact (h2.trans (Only.of_below hb)).then ho (fun i hi e => by omega)

end Go.Proofs.YtgmljeeeomjooaaGreatDoor

/-
  colls.rows' functions of push and pop: what they call.
-/
namespace Go.Proofs.YtgmljeeeomjooaaGreatDoor
open Go Go.RowKit Go.Q Go.Sort

set_option maxHeartbeats 6400000 in
set_option maxRecDepth 100000 in
theorem rowPush (b c g off cap : Nat) (p : Pl) (xs : List ByteArray) (hpos : 0 < xs.length) (hm : xs.length ≤ 1000) (hcap : xs.length + 2 ≤ cap) (hitems : ∀ s ∈ xs, s.size ≤ 65536) (w : World) (hG : Glob w) (h : SpaceAt w p 0 none) (hgav : g ≠ p.t ∧ g ≠ p.d)
    (hC : Slice w (.slice (some ⟨g, off, none⟩) (xs.length + 2) cap) (rpushT :: keyL :: xs)) (hc : Row w c 71 [.pointer (some ⟨p.s, 0, none⟩), .int .i64 0, .int .i64 0, .int .u32 0, .slice (some ⟨g, off, none⟩) (xs.length + 2) cap, .string rpushT]) (hbl : b < w.heap.size) (hb : w.cell? ⟨b, 0, none⟩ = some (.bool false)) :
    Calls Tryz.prog 33 #[callVal 0 c (.slice none 0 0) false, .pointer (some ⟨b, 0, none⟩)] w fun e w' => ∃ u1 n1 c1 u2 n2 c2, e = .returned (.agg #[.int .u8 3, .string ⟨#[]⟩, .int .i64 (xs.length : Int), .slice none 0 0, .slice u1 n1 c1, .slice u2 n2 c2]) ∧
      ∃ m k l, SpaceAt w' p 1 (some m) ∧ KeptAt w' p.t m k l ∧ ListAt Filled w' 10 l xs ∧ Only (fun x => x = p.t ∨ x = p.d) w w' := by
  have hb2 : Below w.heap.size w ((w.alloc (.cells #[.pointer (some ⟨c, 0, none⟩), .int .u8 0, .string ⟨#[]⟩, .slice none 0 0, .slice none 0 0, .slice none 0 0, .slice none 0 0, .slice none 0 0, .int .u64 0, .int .u64 0, .bool false] 76)).alloc (.cells #[.int .u8 0, .string ⟨#[]⟩, .int .i64 0, .slice none 0 0, .slice none 0 0, .slice none 0 0] 36)) := ((Below.refl _ w).alloc (Nat.le_refl _) _).alloc (by simp) _
  have hpush := push_any c g off cap p xs hpos hm hcap hitems _ (hG.below hb2 hG.size) (h.below hb2 (Nat.le_refl _)) hgav (hC.below hb2 (Nat.le_refl _)) (row_below hc hb2 (Nat.le_refl _))
  have heff := Row.new (w.alloc (.cells #[.pointer (some ⟨c, 0, none⟩), .int .u8 0, .string ⟨#[]⟩, .slice none 0 0, .slice none 0 0, .slice none 0 0, .slice none 0 0, .slice none 0 0, .int .u64 0, .int .u64 0, .bool false] 76)) 36 [.int .u8 0, .string ⟨#[]⟩, .int .i64 0, .slice none 0 0, .slice none 0 0, .slice none 0 0]
  rw [World.size_alloc] at heff
  have hE := Lib.hid heff
  have htl := h.dict.tab.lt
  have hdl := h.dict.cell.lt
  unfold callVal at *
  clear heff hG h hC hc
  go_enter Tryz.func33, Tryz.ntmps33
  go_wp2_with fail
  generalize hW : (w.alloc (.cells #[.pointer (some ⟨c, 0, none⟩), .int .u8 0, .string ⟨#[]⟩, .slice none 0 0, .slice none 0 0, .slice none 0 0, .slice none 0 0, .slice none 0 0, .int .u64 0, .int .u64 0, .bool false] 76)).alloc (.cells #[.int .u8 0, .string ⟨#[]⟩, .int .i64 0, .slice none 0 0, .slice none 0 0, .slice none 0 0] 36) = W at *
  clear hW
  go_at_call 34
  refine hpush.mono ?_
  rintro e w1 ⟨u1, n1, c1, u2, n2, c2, rfl, m, k, l, hS, hK, hL, ho⟩
  have hE1 := hE.out.only ho (fun e => by rcases e with e | e <;> omega)
  have y0 := hE1.cell (i := 0) rfl
  have z0 := hE1.free 0
  have y1 := hE1.cell (i := 1) rfl
  have z1 := hE1.free 1
  have y2 := hE1.cell (i := 2) rfl
  have z2 := hE1.free 2
  have y3 := hE1.cell (i := 3) rfl
  have z3 := hE1.free 3
  have y4 := hE1.cell (i := 4) rfl
  have z4 := hE1.free 4
  have y5 := hE1.cell (i := 5) rfl
  have z5 := hE1.free 5
  have hE1' := Lib.hid hE1
  have hS' := Lib.hid hS
  have hK' := Lib.hid hK
  have hL' := Lib.hid hL
  clear hpush hE1 hS hK hL
  go_wp2_with fail
  try simp only [Exit.inBlock, Exit.then]
  have hF := ((((((hE1'.out.set 0 (.int .u8 3)).set 1 (.string ⟨#[]⟩)).set 2 (.int .i64 (xs.length : Int))).set 3 (.slice none 0 0)).set 4 (.slice u1 n1 c1)).set 5 (.slice u2 n2 c2))
  unfold Row at hF
  have ho2 := (((((((Only.refl (· = w.heap.size + 1) w1).setCell ⟨w.heap.size + 1, 0, none⟩ (fun _ => rfl) (.int .u8 3)).setCell ⟨w.heap.size + 1, 1, none⟩ (fun _ => rfl) (.string ⟨#[]⟩)).setCell ⟨w.heap.size + 1, 2, none⟩ (fun _ => rfl) (.int .i64 (xs.length : Int))).setCell ⟨w.heap.size + 1, 3, none⟩ (fun _ => rfl) (.slice none 0 0)).setCell ⟨w.heap.size + 1, 4, none⟩ (fun _ => rfl) (.slice u1 n1 c1)).setCell ⟨w.heap.size + 1, 5, none⟩ (fun _ => rfl) (.slice u2 n2 c2))
  refine bodyPost_ret (results_cell_row (P := Tryz.prog) rfl _ _ (w.heap.size + 1) 36 #[.int .u8 3, .string ⟨#[]⟩, .int .i64 (xs.length : Int), .slice none 0 0, .slice u1 n1 c1, .slice u2 n2 c2] (0, 0) _ rfl (by simpa using hF) Tryz.underlying36 rfl size36) rfl ?_
  have hst := state_eff hS'.out hK'.out hL'.out hE1'.out ho2
  refine ⟨_, _, _, _, _, _, rfl, m, k, l, hst.1, hst.2.1, hst.2.2, ?_⟩
  exact ((Only.of_below (S := fun x => x = p.t ∨ x = p.d) hb2).trans ho).then ho2 (fun i hi e => by omega)

set_option maxHeartbeats 6400000 in
set_option maxRecDepth 100000 in
theorem rowPop (front : Bool) (b c g off cap : Nat) (p : Pl) (m k l0 : Nat) (v : Value) (xs : List ByteArray) (hpos : 0 < xs.length) (hm : xs.length ≤ 1000) (hitems : ∀ s ∈ xs, s.size ≤ 65536) (w : World) (hv : Slice w v xs) (hG : Glob w)
    (h : SpaceAt w p 1 (some m)) (hk : KeptAt w p.t m k l0) (hL : ListAt Filled w 10 l0 xs) (hgav : g ≠ m ∧ g ≠ p.d ∧ g ≠ k) (hC : Slice w (.slice (some ⟨g, off, none⟩) 2 cap) [popT front, keyL])
    (hc : Row w c 71 [.pointer (some ⟨p.s, 0, none⟩), .int .i64 0, .int .i64 0, .int .u32 0, .slice (some ⟨g, off, none⟩) 2 cap, .string (popT front)]) (hbl : b < w.heap.size) (hb : w.cell? ⟨b, 0, none⟩ = some (.bool front)) :
    Calls Tryz.prog 36 #[callVal 2 c v true, .pointer (some ⟨b, 0, none⟩)] w fun e w' => ∃ u1 n1 c1 u2 n2 c2, e = .returned (.agg #[.int .u8 4, .string (xs.getD (popAt front xs.length) ⟨#[]⟩), .int .i64 0, .slice none 0 0, .slice u1 n1 c1, .slice u2 n2 c2]) ∧
      Remains w' p m k (rest front xs) ∧ Only (fun x => x = m ∨ x = p.d ∨ x = k) w w' := by
  obtain ⟨sp, cp, rfl⟩ := hv.len
  have hb2 : Below w.heap.size w ((w.alloc (.cells #[.pointer (some ⟨c, 0, none⟩), .int .u8 2, .string ⟨#[]⟩, .slice sp xs.length cp, .slice none 0 0, .slice none 0 0, .slice none 0 0, .slice none 0 0, .int .u64 0, .int .u64 0, .bool true] 76)).alloc (.cells #[.int .u8 0, .string ⟨#[]⟩, .int .i64 0, .slice none 0 0, .slice none 0 0, .slice none 0 0] 36)) := ((Below.refl _ w).alloc (Nat.le_refl _) _).alloc (by simp) _
  have hpop := pop_any front c g off cap p m k l0 _ xs hpos hm hitems _ (hv.below hb2 (Nat.le_refl _)) (hG.below hb2 hG.size) (h.below hb2 (Nat.le_refl _)) (hk.below hb2 (Nat.le_refl _)) (hL.below hb2 (Nat.le_refl _)) hgav (hC.below hb2 (Nat.le_refl _)) (row_below hc hb2 (Nat.le_refl _))
  have heff := Row.new (w.alloc (.cells #[.pointer (some ⟨c, 0, none⟩), .int .u8 2, .string ⟨#[]⟩, .slice sp xs.length cp, .slice none 0 0, .slice none 0 0, .slice none 0 0, .slice none 0 0, .int .u64 0, .int .u64 0, .bool true] 76)) 36 [.int .u8 0, .string ⟨#[]⟩, .int .i64 0, .slice none 0 0, .slice none 0 0, .slice none 0 0]
  rw [World.size_alloc] at heff
  have hE := Lib.hid heff
  have hdl := h.dict.cell.lt
  have hml := hk.one.lt
  have hkl := hk.kept.lt
  unfold callVal at *
  clear heff hG h hC hc hv hk hL
  go_enter Tryz.func36, Tryz.ntmps36
  go_wp2_with fail
  generalize hW : (w.alloc (.cells #[.pointer (some ⟨c, 0, none⟩), .int .u8 2, .string ⟨#[]⟩, .slice sp xs.length cp, .slice none 0 0, .slice none 0 0, .slice none 0 0, .slice none 0 0, .int .u64 0, .int .u64 0, .bool true] 76)).alloc (.cells #[.int .u8 0, .string ⟨#[]⟩, .int .i64 0, .slice none 0 0, .slice none 0 0, .slice none 0 0] 36) = W at *
  clear hW
  go_at_call 37
  refine hpop.mono ?_
  rintro e w1 ⟨u1, n1, c1, u2, n2, c2, rfl, hS, ho⟩
  have hE1 := hE.out.only ho (fun e => by rcases e with e | e | e <;> omega)
  have y0 := hE1.cell (i := 0) rfl
  have z0 := hE1.free 0
  have y1 := hE1.cell (i := 1) rfl
  have z1 := hE1.free 1
  have y2 := hE1.cell (i := 2) rfl
  have z2 := hE1.free 2
  have y3 := hE1.cell (i := 3) rfl
  have z3 := hE1.free 3
  have y4 := hE1.cell (i := 4) rfl
  have z4 := hE1.free 4
  have y5 := hE1.cell (i := 5) rfl
  have z5 := hE1.free 5
  have hE1' := Lib.hid hE1
  have hS' := Lib.hid hS
  clear hpop hE1 hS
  go_wp2_with fail
  try simp only [Exit.inBlock, Exit.then]
  have hF := ((((((hE1'.out.set 0 (.int .u8 4)).set 1 (.string (xs.getD (popAt front xs.length) ⟨#[]⟩))).set 2 (.int .i64 0)).set 3 (.slice none 0 0)).set 4 (.slice u1 n1 c1)).set 5 (.slice u2 n2 c2))
  unfold Row at hF
  have ho2 := (((((((Only.refl (· = w.heap.size + 1) w1).setCell ⟨w.heap.size + 1, 0, none⟩ (fun _ => rfl) (.int .u8 4)).setCell ⟨w.heap.size + 1, 1, none⟩ (fun _ => rfl) (.string (xs.getD (popAt front xs.length) ⟨#[]⟩))).setCell ⟨w.heap.size + 1, 2, none⟩ (fun _ => rfl) (.int .i64 0)).setCell ⟨w.heap.size + 1, 3, none⟩ (fun _ => rfl) (.slice none 0 0)).setCell ⟨w.heap.size + 1, 4, none⟩ (fun _ => rfl) (.slice u1 n1 c1)).setCell ⟨w.heap.size + 1, 5, none⟩ (fun _ => rfl) (.slice u2 n2 c2))
  refine bodyPost_ret (results_cell_row (P := Tryz.prog) rfl _ _ (w.heap.size + 1) 36 #[.int .u8 4, .string (xs.getD (popAt front xs.length) ⟨#[]⟩), .int .i64 0, .slice none 0 0, .slice u1 n1 c1, .slice u2 n2 c2] (0, 0) _ rfl (by simpa using hF) Tryz.underlying36 rfl size36) rfl ?_
  refine ⟨_, _, _, _, _, _, rfl, hS'.out.eff (by omega) hE1'.out ho2, ?_⟩
  exact ((Only.of_below (S := fun x => x = m ∨ x = p.d ∨ x = k) hb2).trans ho).then ho2 (fun i hi e => by omega)

end Go.Proofs.YtgmljeeeomjooaaGreatDoor
