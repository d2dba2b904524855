/-
  num.Int and num.IntText: contracts at every text.
-/
import Derived.Test.YtgmljeeeomjooaaGreatDoorQa
import Derived.Test.YtgmljeeeomjooaaGreatDoorQb
import Derived.Shelf.SlSorted.Search
import Derived.WalkSpells
import Derived.WalkLawsBesides
import Derived.Lib.AppendStr
set_option linter.all false
/-
  num.Int and num.IntText: contracts at every text.
-/
namespace Go.Proofs.YtgmljeeeomjooaaGreatDoor
open Go Go.RowKit Go.Q Go.Sort

/-- What is asked of the package's variables. -/
structure Glob (w : World) : Prop where
  tab : Lib.TabIs Tryz.prog w "internal/strconv.uint64pow10" .u64 Lib.pow10Tab
  syn : ∃ ev, w.cell? ⟨2, 0, none⟩ = some ev ∧ (ev = .nilIface ∨ ∃ te pe, ev = .iface te pe)
  rng : ∃ ev, w.cell? ⟨3, 0, none⟩ = some ev ∧ (ev = .nilIface ∨ ∃ te pe, ev = .iface te pe)
  size : 10 ≤ w.heap.size

theorem pow_global : Tryz.prog.globalNamed "internal/strconv.uint64pow10" = some 4 := by kernel_rfl

theorem Glob.only {S : Nat → Prop} {w w' : World} (h : Glob w) (ho : Only S w w') (hn : ∀ k, k < 10 → ¬ S k) : Glob w' := by
  have hz := h.size
  refine ⟨?_, ?_, ?_, by have := ho.size; omega⟩
  · have t := h.tab
    unfold Lib.TabIs World.var? at t ⊢
    rw [pow_global] at t ⊢
    simp only [Option.bind_some] at t ⊢
    rw [ho.block 4 (by omega) (hn 4 (by omega))]
    exact t
  · obtain ⟨ev, h1, h2⟩ := h.syn
    exact ⟨ev, (ho.cell (p := ⟨2, 0, none⟩) (by show 2 < _; omega) (hn 2 (by omega))).trans h1, h2⟩
  · obtain ⟨ev, h1, h2⟩ := h.rng
    exact ⟨ev, (ho.cell (p := ⟨3, 0, none⟩) (by show 3 < _; omega) (hn 3 (by omega))).trans h1, h2⟩
theorem Glob.below {B : Nat} {w w' : World} (h : Glob w) (ho : Below B w w') (hB : 10 ≤ B) : Glob w' :=
  h.only (S := fun k => B ≤ k) ⟨ho.os, ho.tape, ho.output, ho.size, fun k _ hn => ho.block k (by omega)⟩ (fun k hk => by omega)

/-- What num.Int answers. -/
def intAns (s : ByteArray) : Value := match numOf s.data.toList with
  | some n => .tuple #[.int .i64 n, .bool true]
  | none => .tuple #[.int .i64 0, .bool false]
theorem intAns_some {s : ByteArray} {n : Int} (h : numOf s.data.toList = some n) : intAns s = .tuple #[.int .i64 n, .bool true] := by unfold intAns; rw [h]
theorem intAns_none {s : ByteArray} (h : numOf s.data.toList = none) : intAns s = .tuple #[.int .i64 0, .bool false] := by unfold intAns; rw [h]

theorem drewN_below (w : World) (k : Nat) (os : Array Obj) : Below w.heap.size w (grow (w.drewN k) os) := below_grown_sl w.heap.size w k os (Nat.le_refl _)

set_option maxHeartbeats 1600000 in
set_option maxRecDepth 100000 in
theorem int_any (s : ByteArray) (hs : s.size ≤ 70000) (w : World) (hG : Glob w) :
    Calls Tryz.prog 115 #[.string s] w fun e w' => e = .returned (intAns s) ∧ Below w.heap.size w w' := by
  have hz := hG.size
  have hbs : s.data.toList.length ≤ 70000 := by simpa using hs
  match hp : Lib.parseIntB 64 s.data.toList with
  | .ok v =>
    have hv := Lib.parseIntB_bounds hp
    have hv0 : -9223372036854775808 ≤ v := by omega
    have hv1 : v ≤ 9223372036854775807 := by omega
    have hpar := fun w => Tryz.strconv_ParseInt_10_at64_ok s (by omega) v hp w
    have hfmt := fun w h => Tryz.strconv_FormatInt_10 v hv0 hv1 w h
    have hans : intAns s = if Lib.itoa v = s.data.toList then .tuple #[.int .i64 v, .bool true] else .tuple #[.int .i64 0, .bool false] := by
      unfold intAns numOf
      rw [hp]
      by_cases h : Lib.itoa v = s.data.toList
      · simp [h]
      · simp [h]
    clear hv hv0 hv1 hp
    by_cases heq : Lib.itoa v = s.data.toList
    · rw [if_pos heq] at hans
      have HA := Lib.hid hans
      have hb : (Lib.itoa v == s.toList) = true := by rw [ByteArray.toList_eq, heq]; simp
      clear hans heq
      go_enter Tryz.func115, Tryz.ntmps115
      go_wp2_with fail
      go_at_call 170
      refine (hpar _).mono ?_
      rintro e w1 ⟨rfl, hw⟩
      have hb1 : Below w.heap.size w w1 := by
        rcases hw with rfl | ⟨t, rfl⟩
        · exact Below.refl _ _
        · exact Lib.bytesWorld_below w 5 t
      clear hw
      go_wp2_with fail
      go_at_call 171
      refine (hfmt w1 (hG.below hb1 hz).tab).mono ?_
      rintro e w2 ⟨rfl, k, os, rfl⟩
      have hb2 := drewN_below w1 k os
      go_wp2_with fail
      go_ret2
      exact ⟨by rw [HA.out]; rfl, hb1.trans (hb2.mono hb1.size)⟩
    · rw [if_neg heq] at hans
      have HA := Lib.hid hans
      have hb : (Lib.itoa v == s.toList) = false := by rw [ByteArray.toList_eq]; simpa using heq
      clear hans heq
      go_enter Tryz.func115, Tryz.ntmps115
      go_wp2_with fail
      go_at_call 170
      refine (hpar _).mono ?_
      rintro e w1 ⟨rfl, hw⟩
      have hb1 : Below w.heap.size w w1 := by
        rcases hw with rfl | ⟨t, rfl⟩
        · exact Below.refl _ _
        · exact Lib.bytesWorld_below w 5 t
      clear hw
      go_wp2_with fail
      go_at_call 171
      refine (hfmt w1 (hG.below hb1 hz).tab).mono ?_
      rintro e w2 ⟨rfl, k, os, rfl⟩
      have hb2 := drewN_below w1 k os
      go_wp2_with fail
      go_ret2
      exact ⟨by rw [HA.out]; rfl, hb1.trans (hb2.mono hb1.size)⟩
  | .syntax =>
    obtain ⟨ev, hv, hev⟩ := hG.syn
    have hpar := Tryz.strconv_ParseInt_10_at64_syntax s (by omega) hp ev w hv hev
    have HA := Lib.hid (show intAns s = .tuple #[.int .i64 0, .bool false] from intAns_none (by unfold numOf; rw [hp]))
    clear hp hv hev
    go_enter Tryz.func115, Tryz.ntmps115
    go_wp2_with fail
    go_at_call 170
    refine hpar.mono ?_
    rintro e w1 ⟨N, rfl, _, _, hb1⟩
    go_wp2_with fail
    go_ret2
    exact ⟨by rw [HA.out]; rfl, hb1⟩
  | .range =>
    obtain ⟨ev, hv, hev⟩ := hG.rng
    have hpar := Tryz.strconv_ParseInt_10_at64_range s (by omega) hp ev w hv hev
    have HA := Lib.hid (show intAns s = .tuple #[.int .i64 0, .bool false] from intAns_none (by unfold numOf; rw [hp]))
    clear hp hv hev
    go_enter Tryz.func115, Tryz.ntmps115
    go_wp2_with fail
    go_at_call 170
    refine hpar.mono ?_
    rintro e w1 ⟨N, rfl, _, _, hb1⟩
    go_wp2_with fail
    go_ret2
    exact ⟨by rw [HA.out]; rfl, hb1⟩

set_option maxHeartbeats 800000 in
set_option maxRecDepth 100000 in
theorem intText_any (n : Int) (h0 : -9223372036854775808 ≤ n) (h1 : n ≤ 9223372036854775807) (w : World) (hG : Glob w) :
    Calls Tryz.prog 117 #[.int .i64 n] w fun e w' => e = .returned (.string ⟨(Lib.itoa n).toArray⟩) ∧ Below w.heap.size w w' := by
  have hfmt := fun w h => Tryz.strconv_FormatInt_10 n h0 h1 w h
  have hz := hG.size
  clear h0 h1
  go_enter Tryz.func117, Tryz.ntmps117
  go_wp2_with fail
  go_at_call 171
  refine (hfmt w hG.tab).mono ?_
  rintro e w2 ⟨rfl, k, os, rfl⟩
  have hb2 := drewN_below w k os
  go_wp2_with fail
  go_ret
  exact ⟨rfl, hb2⟩

end Go.Proofs.YtgmljeeeomjooaaGreatDoor

/-
  Bytes that a call has made. No walk.
-/
namespace Go.Q
open Go Go.RowKit

theorem owns_only {S : Nat → Prop} {w w' : World} {B : Nat} {e : TypeId} {s : Nat} {v : Value} {n : Nat} {xs : List Value} (h : w.ownsRow B e s v n xs) (ho : Only S w w') (hn : ∀ b, v.ownBlock = some b → ¬ S b) : w'.ownsRow B e s v n xs := by
  obtain ⟨h0, h1 | ⟨g, cap, cur, rfl, h2, h3, h4⟩⟩ := h
  · exact ⟨h0, .inl h1⟩
  · exact ⟨h0, .inr ⟨g, cap, cur, rfl, h2, ho.at h3 (hn g rfl), h4⟩⟩
theorem owns_below {w w' : World} {B C : Nat} {e : TypeId} {s : Nat} {v : Value} {n : Nat} {xs : List Value} (h : w.ownsRow B e s v n xs) (ho : Below C w w') (hC : C = w.heap.size) : w'.ownsRow B e s v n xs := by
  subst hC
  exact owns_only h (Only.of_below (S := fun _ => False) ho) fun _ _ h => h
theorem owns_mono {w : World} {B B' : Nat} {e : TypeId} {s : Nat} {v : Value} {n : Nat} {xs : List Value} (h : w.ownsRow B e s v n xs) (hB : B' ≤ B) : w.ownsRow B' e s v n xs := by
  obtain ⟨h0, h1 | ⟨g, cap, cur, rfl, h2, h3⟩⟩ := h
  · exact ⟨h0, .inl h1⟩
  · exact ⟨h0, .inr ⟨g, cap, cur, rfl, Nat.le_trans hB h2, h3⟩⟩
/-- A literal of bytes. -/
theorem owns_lit {w : World} (cs : List Value) {B : Nat} (hB : B ≤ w.heap.size) (hm : cs.length ≤ 1000000) : (w.alloc (.cells cs.toArray 5)).ownsRow B 5 1 (.slice (some ⟨w.heap.size, 0, none⟩) cs.length cs.length) cs.length cs := by
  have h := World.ownsRow_lit (base := B) (e := 5) (size := 1) w cs.toArray cs.length hB (by unfold maxLen; omega) (by simp)
  simpa using h
theorem owns_cells {w : World} {B g n cap : Nat} {l : List UInt8} (h : w.ownsRow B 5 1 (.slice (some ⟨g, 0, none⟩) n cap) n (u8s l)) : n = l.length ∧ B ≤ g ∧ ∃ r, Row w g 5 (u8s l ++ r) ∧ cap = l.length + r.length := by
  obtain ⟨h0, h1 | ⟨g', cap', cur, h2, h3, h4, h5, h6, h7, h8⟩⟩ := h
  · cases h1.1
  · cases h2
    have hn : n = l.length := by simpa [u8s] using h0.symm
    refine ⟨hn, h3, cur.toList.drop n, ?_, ?_⟩
    · unfold Row
      rw [h4, ← h8, Nat.mul_one, List.take_append_drop]
    · simp [h7]; omega
theorem owns_row {w : World} {B g cap : Nat} {l : List UInt8} (hB : B ≤ g) {r : List Value} (h : Row w g 5 (u8s l ++ r)) (hc : cap = l.length + r.length) (hm : cap ≤ maxLen) : w.ownsRow B 5 1 (.slice (some ⟨g, 0, none⟩) l.length cap) l.length (u8s l) := by
  refine ⟨by simp [u8s], .inr ⟨g, cap, _, rfl, hB, h, by omega, hm, by simp [u8s, hc], by simp [u8s]⟩⟩
theorem news_of {w : World} {B g n cap : Nat} {l : List UInt8} (h : w.ownsRow B 5 1 (.slice (some ⟨g, 0, none⟩) n cap) n (u8s l)) : (u8s l).length = n * 1 ∧ (∀ j u, (u8s l)[j]? = some u → w.cell? ((⟨g, 0, none⟩ : Addr).add j) = some u) ∧ ∀ u ∈ u8s l, u.oneCell' = true := by
  refine ⟨h.1, fun j u hj => ?_, fun u hu => ?_⟩
  · have hj' := (List.getElem?_eq_some_iff.1 hj).1
    have h2 := h.cellAt j (by rw [← h.1]; exact hj')
    rw [hj] at h2
    simpa [Addr.add_lit] using h2
  · simp only [u8s, List.mem_map] at hu
    obtain ⟨x, _, rfl⟩ := hu
    rfl
theorem owns_pos {w : World} {B : Nat} {v : Value} {l : List UInt8} (h : w.ownsRow B 5 1 v l.length (u8s l)) (hl : 0 < l.length) : ∃ g cap, v = .slice (some ⟨g, 0, none⟩) l.length cap := by
  obtain ⟨_, ⟨_, h0⟩ | ⟨g, cap, _, rfl, _⟩⟩ := h
  · omega
  · exact ⟨g, cap, rfl⟩

end Go.Q

/-
  pack.entry: contract.
-/
namespace Go.Proofs.YtgmljeeeomjooaaGreatDoor
open Go Go.RowKit Go.Q Go.Sort

theorem ne_i8 {n : Int} (h : ¬ (-128 ≤ n ∧ n < 128)) : (n == wrap64 (IntKind.i8.wrap n)) = false := by
  simp only [IntKind.wrap, IntKind.signed, IntKind.bits]
  unfold wrap64
  simp; omega
theorem ne_i16 {n : Int} (h : ¬ (-32768 ≤ n ∧ n < 32768)) : (n == wrap64 (IntKind.i16.wrap n)) = false := by
  simp only [IntKind.wrap, IntKind.signed, IntKind.bits]
  unfold wrap64
  simp; omega
theorem ne_i32 {n : Int} (h : ¬ (-2147483648 ≤ n ∧ n < 2147483648)) : (n == wrap64 (wrap32 n)) = false := by
  unfold wrap32 wrap64
  simp; omega
theorem back_pos (n : Nat) : 0 < (back n).length := by
  by_cases h : n < 128
  · rw [back_small h]; simp
  · rw [back_big (by omega)]; simp
theorem strs_u8s (s : ByteArray) : Lib.strCells s = u8s s.data.toList := rfl
theorem u64_wrap (n : Int) : IntKind.u64.wrap n = (u64 n : Int) := by
  rw [IntKind.wrap_u64]; unfold u64; omega
theorem u64_lt (n : Int) : u64 n < 18446744073709551616 := by unfold u64; omega
theorem byte_nat (n : Nat) : (n : Int) % 256 = ((UInt8.ofNat n).toNat : Int) := by
  rw [UInt8.toNat_ofNat']; omega

def EntryOk (s : ByteArray) (w : World) (e : Ending) (w' : World) : Prop :=
  ∃ v', e = .returned v' ∧ w'.ownsRow w.heap.size 5 1 v' (enc s.data.toList).length (u8s (enc s.data.toList)) ∧ Below w.heap.size w w'

set_option maxHeartbeats 3200000 in
set_option maxRecDepth 100000 in
theorem entry_i8 (s : ByteArray) (hs : s.size ≤ 70000) (n : Int) (hn : numOf s.data.toList = some n) (h8 : -128 ≤ n ∧ n < 128) (w : World) (hG : Glob w) : Calls Tryz.prog 309 #[.string s] w (EntryOk s w) := by
  have hint := int_any s hs w hG
  obtain ⟨i0, hi, hz0, hz1, hz2⟩ := info_parts info5
  rw [intAns_some hn] at hint
  have w8 : IntKind.i8.wrap n = n := IntWalk.i8_in n (by omega)
  have hh : head s.data.toList = [UInt8.ofNat 241, UInt8.ofNat (u64 n)] := by
    unfold head wid; rw [hn]; simp [h8, le]
  have hu : n % 256 = ((UInt8.ofNat (u64 n)).toNat : Int) := by
    rw [UInt8.toNat_ofNat', u64]; omega
  have hcs : u8s (head s.data.toList) = [.int .u8 241, .int .u8 (n % 256)] := by rw [hh, hu]; rfl
  have he : enc s.data.toList = head s.data.toList ++ back 2 := by rw [enc, hh]; rfl
  obtain ⟨h81, h82⟩ := h8
  have HE := Lib.hid he
  have HC := Lib.hid hcs
  have HH := Lib.hid hh
  clear hn he hcs hh hu
  go_enter Tryz.func309, Tryz.ntmps309
  go_wp2_with fail
  go_at_call 115
  refine hint.mono ?_
  rintro e w1 ⟨rfl, hb1⟩
  have hlit := owns_lit (w := w1) [.int .u8 241, .int .u8 (n % 256)] hb1.size (by simp)
  have hb3' : Below w.heap.size w (w1.alloc (.cells #[.int .u8 241, .int .u8 (n % 256)] 5)) := hb1.alloc hb1.size _
  go_wp2_with fail
  go_at_call 338
  refine (back_any 2 (by omega) _).mono ?_
  rintro e w4 ⟨v2, rfl, hv2, hb4⟩
  have hb4' : Below w.heap.size w w4 := hb3'.trans (hb4.mono (by have := hb3'.size; simpa using this))
  have hv1 := owns_below hlit hb4 rfl
  obtain ⟨g2, cap2, rfl⟩ := owns_pos hv2 (back_pos 2)
  obtain ⟨n1, n2, n3⟩ := news_of hv2
  have hsz := hb4'.size
  have hbl := (back_length (n := 2) (by omega)).2
  have N1 := Lib.hid n1
  have N2 := Lib.hid n2
  have N3 := Lib.hid n3
  clear n1 n2 n3
  go_wp2_with (at_builtin; refine wpList_append_own _ rfl _ _ 261 rfl w.heap.size 5 i0 (.int .u8 0) 1 1 Tryz.underlying261 hi hz0 hz1 hz2 rfl (by decide) _ _ _ rfl hv1 ⟨g2, 0, none⟩ _ cap2 _ rfl N1.out N2.out N3.out ?c1 ?c2 ?c3 ?_)
  case c1 => unfold maxLen; simp; omega
  case c2 => simp; omega
  case c3 => exact hsz
  intro v' w5 hown hgrow _
  have hb5 : Below w.heap.size w w5 := hb4'.grown hgrow hsz (by intro k e; cases e; exact hb1.size)
  have hown' : w5.ownsRow w.heap.size 5 1 v' (enc s.data.toList).length (u8s (enc s.data.toList)) := by
    rw [HE.out, u8s_append, List.length_append]
    rw [HC.out, HH.out]; simpa using hown
  clear hown
  go_wp2
  go_ret
  exact ⟨_, rfl, hown', hb5⟩

set_option maxHeartbeats 3200000 in
set_option maxRecDepth 100000 in
theorem entry_i16 (s : ByteArray) (hs : s.size ≤ 70000) (n : Int) (hn : numOf s.data.toList = some n) (h8 : ¬ (-128 ≤ n ∧ n < 128)) (h16 : -32768 ≤ n ∧ n < 32768) (w : World) (hG : Glob w) : Calls Tryz.prog 309 #[.string s] w (EntryOk s w) := by
  have hint := int_any s hs w hG
  obtain ⟨i0, hi, hz0, hz1, hz2⟩ := info_parts info5
  rw [intAns_some hn] at hint
  have d8 := ne_i8 h8
  have w16 : IntKind.i16.wrap n = n := IntWalk.i16_in n (by omega)
  have hw : wid n = 2 := by unfold wid; rw [if_neg h8, if_pos h16]
  obtain ⟨h161, h162⟩ := h16
  clear h8
  have hh : head s.data.toList = [UInt8.ofNat 242] ++ le 2 (u64 n) := by
    unfold head; rw [hn]; simp [hw]
  have hl : (head s.data.toList).length = 3 := by rw [hh]; simp [le_length]
  have he : enc s.data.toList = head s.data.toList ++ back 3 := by rw [enc, hl]
  have hU := u64_wrap n
  have HE := Lib.hid he
  have HH := Lib.hid hh
  have HL := Lib.hid hl
  have HU := Lib.hid (u64_lt n)
  clear hn he hh hl hw
  go_enter Tryz.func309, Tryz.ntmps309
  go_wp2_with fail
  go_at_call 115
  refine hint.mono ?_
  rintro e w1 ⟨rfl, hb1⟩
  have hlit := owns_lit (w := w1) [.int .u8 242] hb1.size (by simp)
  go_wp2_with fail
  go_at_call 337
  refine (append_any w.heap.size _ [UInt8.ofNat 242] (u64 n) 2 (by simp) (by omega) HU.out _ (by have := hb1.size; simp; omega) hlit).mono ?_
  rintro e w3 ⟨v1, rfl, hown1, hb3⟩
  have hb3' : Below w.heap.size w w3 := (hb1.alloc hb1.size _).trans hb3
  have hown2 : w3.ownsRow w.heap.size 5 1 v1 3 (u8s (head s.data.toList)) := by rw [HH.out]; exact hown1
  clear hown1 hb3 hlit
  obtain ⟨g1, cap1, rfl⟩ := ownsRow_succ hown2
  go_wp2_with fail
  go_at_call 338
  refine (back_any 3 (by omega) _).mono ?_
  rintro e w4 ⟨v2, rfl, hv2, hb4⟩
  have hb4' : Below w.heap.size w w4 := hb3'.trans (hb4.mono (by have := hb3'.size; simpa using this))
  have hv1 := owns_below hown2 hb4 rfl
  obtain ⟨g2, cap2, rfl⟩ := owns_pos hv2 (back_pos 3)
  obtain ⟨n1, n2, n3⟩ := news_of hv2
  have hsz := hb4'.size
  have hbl := (back_length (n := 3) (by omega)).2
  have N1 := Lib.hid n1
  have N2 := Lib.hid n2
  have N3 := Lib.hid n3
  clear n1 n2 n3
  go_wp2_with (at_builtin; refine wpList_append_own _ rfl _ _ 261 rfl w.heap.size 5 i0 (.int .u8 0) 1 1 Tryz.underlying261 hi hz0 hz1 hz2 rfl (by decide) _ _ _ rfl hv1 ⟨g2, 0, none⟩ _ cap2 _ rfl N1.out N2.out N3.out ?c1 ?c2 ?c3 ?_)
  case c1 => unfold maxLen; simp; omega
  case c2 => simp; omega
  case c3 => exact hsz
  intro v' w5 hown hgrow _
  have hb5 : Below w.heap.size w w5 := hb4'.grown hgrow hsz (by intro k e; cases e; exact owns_ge hown2)
  have hown' : w5.ownsRow w.heap.size 5 1 v' (enc s.data.toList).length (u8s (enc s.data.toList)) := by
    rw [HE.out, u8s_append, List.length_append]
    rw [HL.out]; simpa using hown
  clear hown
  go_wp2
  go_ret
  exact ⟨_, rfl, hown', hb5⟩

set_option maxHeartbeats 3200000 in
set_option maxRecDepth 100000 in
theorem entry_i32 (s : ByteArray) (hs : s.size ≤ 70000) (n : Int) (hn : numOf s.data.toList = some n) (h16 : ¬ (-32768 ≤ n ∧ n < 32768)) (h32 : -2147483648 ≤ n ∧ n < 2147483648) (w : World) (hG : Glob w) : Calls Tryz.prog 309 #[.string s] w (EntryOk s w) := by
  have hint := int_any s hs w hG
  obtain ⟨i0, hi, hz0, hz1, hz2⟩ := info_parts info5
  rw [intAns_some hn] at hint
  have d8 := ne_i8 (n := n) (by omega)
  have d16 := ne_i16 h16
  have hw : wid n = 4 := by unfold wid; rw [if_neg (by omega), if_neg h16, if_pos h32]
  have w32 : wrap32 n = n := IntWalk.wrap32_in n (by omega)
  have w64 : wrap64 n = n := IntWalk.wrap64_in n (by omega)
  clear h16 h32
  have hh : head s.data.toList = [UInt8.ofNat 244] ++ le 4 (u64 n) := by
    unfold head; rw [hn]; simp [hw]
  have hl : (head s.data.toList).length = 5 := by rw [hh]; simp [le_length]
  have he : enc s.data.toList = head s.data.toList ++ back 5 := by rw [enc, hl]
  have hU := u64_wrap n
  have HE := Lib.hid he
  have HH := Lib.hid hh
  have HL := Lib.hid hl
  have HU := Lib.hid (u64_lt n)
  clear hn he hh hl hw
  go_enter Tryz.func309, Tryz.ntmps309
  go_wp2_with fail
  go_at_call 115
  refine hint.mono ?_
  rintro e w1 ⟨rfl, hb1⟩
  have hlit := owns_lit (w := w1) [.int .u8 244] hb1.size (by simp)
  go_wp2_with fail
  go_at_call 337
  refine (append_any w.heap.size _ [UInt8.ofNat 244] (u64 n) 4 (by simp) (by omega) HU.out _ (by have := hb1.size; simp; omega) hlit).mono ?_
  rintro e w3 ⟨v1, rfl, hown1, hb3⟩
  have hb3' : Below w.heap.size w w3 := (hb1.alloc hb1.size _).trans hb3
  have hown2 : w3.ownsRow w.heap.size 5 1 v1 5 (u8s (head s.data.toList)) := by rw [HH.out]; exact hown1
  clear hown1 hb3 hlit
  obtain ⟨g1, cap1, rfl⟩ := ownsRow_succ hown2
  go_wp2_with fail
  go_at_call 338
  refine (back_any 5 (by omega) _).mono ?_
  rintro e w4 ⟨v2, rfl, hv2, hb4⟩
  have hb4' : Below w.heap.size w w4 := hb3'.trans (hb4.mono (by have := hb3'.size; simpa using this))
  have hv1 := owns_below hown2 hb4 rfl
  obtain ⟨g2, cap2, rfl⟩ := owns_pos hv2 (back_pos 5)
  obtain ⟨n1, n2, n3⟩ := news_of hv2
  have hsz := hb4'.size
  have hbl := (back_length (n := 5) (by omega)).2
  have N1 := Lib.hid n1
  have N2 := Lib.hid n2
  have N3 := Lib.hid n3
  clear n1 n2 n3
  go_wp2_with (at_builtin; refine wpList_append_own _ rfl _ _ 261 rfl w.heap.size 5 i0 (.int .u8 0) 1 1 Tryz.underlying261 hi hz0 hz1 hz2 rfl (by decide) _ _ _ rfl hv1 ⟨g2, 0, none⟩ _ cap2 _ rfl N1.out N2.out N3.out ?c1 ?c2 ?c3 ?_)
  case c1 => unfold maxLen; simp; omega
  case c2 => simp; omega
  case c3 => exact hsz
  intro v' w5 hown hgrow _
  have hb5 : Below w.heap.size w w5 := hb4'.grown hgrow hsz (by intro k e; cases e; exact owns_ge hown2)
  have hown' : w5.ownsRow w.heap.size 5 1 v' (enc s.data.toList).length (u8s (enc s.data.toList)) := by
    rw [HE.out, u8s_append, List.length_append]
    rw [HL.out]; simpa using hown
  clear hown
  go_wp2
  go_ret
  exact ⟨_, rfl, hown', hb5⟩

set_option maxHeartbeats 3200000 in
set_option maxRecDepth 100000 in
theorem entry_i64 (s : ByteArray) (hs : s.size ≤ 70000) (n : Int) (hn : numOf s.data.toList = some n) (h32 : ¬ (-2147483648 ≤ n ∧ n < 2147483648)) (w : World) (hG : Glob w) : Calls Tryz.prog 309 #[.string s] w (EntryOk s w) := by
  have hint := int_any s hs w hG
  obtain ⟨i0, hi, hz0, hz1, hz2⟩ := info_parts info5
  rw [intAns_some hn] at hint
  have d8 := ne_i8 (n := n) (by omega)
  have d16 := ne_i16 (n := n) (by omega)
  have d32 := ne_i32 h32
  have hw : wid n = 8 := by unfold wid; rw [if_neg (by omega), if_neg (by omega), if_neg h32]
  clear h32
  have hh : head s.data.toList = [UInt8.ofNat 248] ++ le 8 (u64 n) := by
    unfold head; rw [hn]; simp [hw]
  have hl : (head s.data.toList).length = 9 := by rw [hh]; simp [le_length]
  have he : enc s.data.toList = head s.data.toList ++ back 9 := by rw [enc, hl]
  have hU := u64_wrap n
  have HE := Lib.hid he
  have HH := Lib.hid hh
  have HL := Lib.hid hl
  have HU := Lib.hid (u64_lt n)
  clear hn he hh hl hw
  go_enter Tryz.func309, Tryz.ntmps309
  go_wp2_with fail
  go_at_call 115
  refine hint.mono ?_
  rintro e w1 ⟨rfl, hb1⟩
  have hlit := owns_lit (w := w1) [.int .u8 248] hb1.size (by simp)
  go_wp2_with fail
  go_at_call 337
  refine (append_any w.heap.size _ [UInt8.ofNat 248] (u64 n) 8 (by simp) (by omega) HU.out _ (by have := hb1.size; simp; omega) hlit).mono ?_
  rintro e w3 ⟨v1, rfl, hown1, hb3⟩
  have hb3' : Below w.heap.size w w3 := (hb1.alloc hb1.size _).trans hb3
  have hown2 : w3.ownsRow w.heap.size 5 1 v1 9 (u8s (head s.data.toList)) := by rw [HH.out]; exact hown1
  clear hown1 hb3 hlit
  obtain ⟨g1, cap1, rfl⟩ := ownsRow_succ hown2
  go_wp2_with fail
  go_at_call 338
  refine (back_any 9 (by omega) _).mono ?_
  rintro e w4 ⟨v2, rfl, hv2, hb4⟩
  have hb4' : Below w.heap.size w w4 := hb3'.trans (hb4.mono (by have := hb3'.size; simpa using this))
  have hv1 := owns_below hown2 hb4 rfl
  obtain ⟨g2, cap2, rfl⟩ := owns_pos hv2 (back_pos 9)
  obtain ⟨n1, n2, n3⟩ := news_of hv2
  have hsz := hb4'.size
  have hbl := (back_length (n := 9) (by omega)).2
  have N1 := Lib.hid n1
  have N2 := Lib.hid n2
  have N3 := Lib.hid n3
  clear n1 n2 n3
  go_wp2_with (at_builtin; refine wpList_append_own _ rfl _ _ 261 rfl w.heap.size 5 i0 (.int .u8 0) 1 1 Tryz.underlying261 hi hz0 hz1 hz2 rfl (by decide) _ _ _ rfl hv1 ⟨g2, 0, none⟩ _ cap2 _ rfl N1.out N2.out N3.out ?c1 ?c2 ?c3 ?_)
  case c1 => unfold maxLen; simp; omega
  case c2 => simp; omega
  case c3 => exact hsz
  intro v' w5 hown hgrow _
  have hb5 : Below w.heap.size w w5 := hb4'.grown hgrow hsz (by intro k e; cases e; exact owns_ge hown2)
  have hown' : w5.ownsRow w.heap.size 5 1 v' (enc s.data.toList).length (u8s (enc s.data.toList)) := by
    rw [HE.out, u8s_append, List.length_append]
    rw [HL.out]; simpa using hown
  clear hown
  go_wp2
  go_ret
  exact ⟨_, rfl, hown', hb5⟩

set_option maxHeartbeats 3200000 in
set_option maxRecDepth 100000 in
theorem entry_short (s : ByteArray) (hs : s.size ≤ 70000) (hn : numOf s.data.toList = none) (hl : s.size < 128) (w : World) (hG : Glob w) : Calls Tryz.prog 309 #[.string s] w (EntryOk s w) := by
  have hint := int_any s hs w hG
  obtain ⟨i0, hi, hz0, hz1, hz2⟩ := info_parts info5
  rw [intAns_none hn] at hint
  have hsz0 : s.data.toList.length = s.size := by simp
  have hh : head s.data.toList = [UInt8.ofNat s.size] ++ s.data.toList := by
    unfold head; rw [hn, if_pos (by omega), hsz0]; rfl
  have hl2 : (head s.data.toList).length = 1 + s.size := by rw [hh]; simp; omega
  have he : enc s.data.toList = head s.data.toList ++ back (1 + s.size) := by rw [enc, hl2]
  have hb : (s.size : Int) = ((UInt8.ofNat s.size).toNat : Int) := by rw [← byte_nat]; omega
  have HE := Lib.hid he
  have HH := Lib.hid hh
  have HL := Lib.hid hl2
  have HB := Lib.hid hb
  clear hn he hh hl2 hb hsz0
  go_enter Tryz.func309, Tryz.ntmps309
  go_wp2_with fail
  go_at_call 115
  refine hint.mono ?_
  rintro e w1 ⟨rfl, hb1⟩
  have hlit := owns_lit (w := w1) [.int .u8 (s.size : Int)] hb1.size (by simp)
  go_wp2_with (at_builtin; go_loud (refine Lib.wpList_append_own_string _ rfl _ _ 261 9 rfl w.heap.size 5 i0 Tryz.underlying261 Tryz.underlying9 hi hz0 hz1 hz2 _ _ _ rfl hlit s rfl ?c4 ?c5 ?c6 ?_))
  case c4 => unfold maxLen; simp; omega
  case c5 => simp; omega
  case c6 => have := hb1.size; simp; omega
  intro v1 w3 hown1 hgrow1 _
  have hb3' : Below w.heap.size w w3 := (hb1.alloc hb1.size _).grown hgrow1 (by have := hb1.size; simp; omega) (by intro k e; cases e; exact hb1.size)
  have hown2 : w3.ownsRow w.heap.size 5 1 v1 (1 + s.size) (u8s (head s.data.toList)) := by
    rw [HH.out, u8s_append]
    rw [HB.out] at hown1
    exact hown1
  clear hown1 hgrow1 hlit
  obtain ⟨g1, cap1, rfl⟩ : ∃ g cap, v1 = .slice (some ⟨g, 0, none⟩) (1 + s.size) cap := by
    obtain ⟨_, ⟨_, h0⟩ | ⟨g, cap, _, rfl, _⟩⟩ := hown2
    · omega
    · exact ⟨g, cap, rfl⟩
  go_wp2_with fail
  go_at_call 338
  refine (back_any (1 + s.size) (by omega) _).mono ?_
  rintro e w4 ⟨v2, rfl, hv2, hb4⟩
  have hb4' : Below w.heap.size w w4 := hb3'.trans (hb4.mono (by have := hb3'.size; simpa using this))
  have hv1 := owns_below hown2 hb4 rfl
  obtain ⟨g2, cap2, rfl⟩ := owns_pos hv2 (back_pos (1 + s.size))
  obtain ⟨n1, n2, n3⟩ := news_of hv2
  have hsz := hb4'.size
  have hbl := (back_length (n := (1 + s.size)) (by omega)).2
  have N1 := Lib.hid n1
  have N2 := Lib.hid n2
  have N3 := Lib.hid n3
  clear n1 n2 n3
  go_wp2_with (at_builtin; refine wpList_append_own _ rfl _ _ 261 rfl w.heap.size 5 i0 (.int .u8 0) 1 1 Tryz.underlying261 hi hz0 hz1 hz2 rfl (by decide) _ _ _ rfl hv1 ⟨g2, 0, none⟩ _ cap2 _ rfl N1.out N2.out N3.out ?c1 ?c2 ?c3 ?_)
  case c1 => unfold maxLen; simp; omega
  case c2 => simp; omega
  case c3 => exact hsz
  intro v' w5 hown hgrow _
  have hb5 : Below w.heap.size w w5 := hb4'.grown hgrow hsz (by intro k e; cases e; exact owns_ge hown2)
  have hown' : w5.ownsRow w.heap.size 5 1 v' (enc s.data.toList).length (u8s (enc s.data.toList)) := by
    rw [HE.out, u8s_append, List.length_append]
    rw [HL.out]; exact hown
  clear hown
  go_wp2
  go_ret
  exact ⟨_, rfl, hown', hb5⟩

set_option maxHeartbeats 3200000 in
set_option maxRecDepth 100000 in
theorem entry_long (s : ByteArray) (hs : s.size ≤ 70000) (hn : numOf s.data.toList = none) (hl : ¬ s.size < 128) (w : World) (hG : Glob w) : Calls Tryz.prog 309 #[.string s] w (EntryOk s w) := by
  have hint := int_any s hs w hG
  obtain ⟨i0, hi, hz0, hz1, hz2⟩ := info_parts info5
  rw [intAns_none hn] at hint
  have hsz0 : s.data.toList.length = s.size := by simp
  have hh : head s.data.toList = (128 :: le 3 s.size) ++ s.data.toList := by
    unfold head; rw [hn, if_neg (by omega), hsz0]; rfl
  have hl2 : (head s.data.toList).length = 4 + s.size := by rw [hh]; simp [le_length]; omega
  have he : enc s.data.toList = head s.data.toList ++ back (4 + s.size) := by rw [enc, hl2]
  have hb : u8s (128 :: le 3 s.size) = [.int .u8 128, .int .u8 ((s.size : Int) % 256), .int .u8 ((s.size : Int) / 256 % 256), .int .u8 ((s.size : Int) / 65536)] := by
    simp only [le, u8s, List.map_cons, List.map_nil, ← byte_nat]
    have e1 : ((s.size / 256 : Nat) : Int) = (s.size : Int) / 256 := by omega
    have e2 : ((s.size / 256 / 256 : Nat) : Int) = (s.size : Int) / 65536 := by omega
    have e3 : (s.size : Int) / 65536 % 256 = (s.size : Int) / 65536 := by omega
    rw [e1, e2, e3]; rfl
  have HE := Lib.hid he
  have HH := Lib.hid hh
  have HL := Lib.hid hl2
  have HB := Lib.hid hb
  have hlc : ¬ (s.size : Int) < 128 := by omega
  clear hn he hh hl2 hb hsz0
  go_enter Tryz.func309, Tryz.ntmps309
  go_wp2_with fail
  go_at_call 115
  refine hint.mono ?_
  rintro e w1 ⟨rfl, hb1⟩
  have hlit := owns_lit (w := w1) [.int .u8 128, .int .u8 ((s.size : Int) % 256), .int .u8 ((s.size : Int) / 256 % 256), .int .u8 ((s.size : Int) / 65536)] hb1.size (by simp)
  go_wp2_with (at_builtin; go_loud (refine Lib.wpList_append_own_string _ rfl _ _ 261 9 rfl w.heap.size 5 i0 Tryz.underlying261 Tryz.underlying9 hi hz0 hz1 hz2 _ _ _ rfl hlit s rfl ?c4 ?c5 ?c6 ?_))
  case c4 => unfold maxLen; simp; omega
  case c5 => simp; omega
  case c6 => have := hb1.size; simp; omega
  intro v1 w3 hown1 hgrow1 _
  have hb3' : Below w.heap.size w w3 := (hb1.alloc hb1.size _).grown hgrow1 (by have := hb1.size; simp; omega) (by intro k e; cases e; exact hb1.size)
  have hown2 : w3.ownsRow w.heap.size 5 1 v1 (4 + s.size) (u8s (head s.data.toList)) := by
    rw [HH.out, u8s_append, HB.out]
    exact hown1
  clear hown1 hgrow1 hlit
  obtain ⟨g1, cap1, rfl⟩ : ∃ g cap, v1 = .slice (some ⟨g, 0, none⟩) (4 + s.size) cap := by
    obtain ⟨_, ⟨_, h0⟩ | ⟨g, cap, _, rfl, _⟩⟩ := hown2
    · omega
    · exact ⟨g, cap, rfl⟩
  go_wp2_with fail
  go_at_call 338
  refine (back_any (4 + s.size) (by omega) _).mono ?_
  rintro e w4 ⟨v2, rfl, hv2, hb4⟩
  have hb4' : Below w.heap.size w w4 := hb3'.trans (hb4.mono (by have := hb3'.size; simpa using this))
  have hv1 := owns_below hown2 hb4 rfl
  obtain ⟨g2, cap2, rfl⟩ := owns_pos hv2 (back_pos (4 + s.size))
  obtain ⟨n1, n2, n3⟩ := news_of hv2
  have hsz := hb4'.size
  have hbl := (back_length (n := (4 + s.size)) (by omega)).2
  have N1 := Lib.hid n1
  have N2 := Lib.hid n2
  have N3 := Lib.hid n3
  clear n1 n2 n3
  go_wp2_with (at_builtin; refine wpList_append_own _ rfl _ _ 261 rfl w.heap.size 5 i0 (.int .u8 0) 1 1 Tryz.underlying261 hi hz0 hz1 hz2 rfl (by decide) _ _ _ rfl hv1 ⟨g2, 0, none⟩ _ cap2 _ rfl N1.out N2.out N3.out ?c1 ?c2 ?c3 ?_)
  case c1 => unfold maxLen; simp; omega
  case c2 => simp; omega
  case c3 => exact hsz
  intro v' w5 hown hgrow _
  have hb5 : Below w.heap.size w w5 := hb4'.grown hgrow hsz (by intro k e; cases e; exact owns_ge hown2)
  have hown' : w5.ownsRow w.heap.size 5 1 v' (enc s.data.toList).length (u8s (enc s.data.toList)) := by
    rw [HE.out, u8s_append, List.length_append]
    rw [HL.out]; exact hown
  clear hown
  go_wp2
  go_ret
  exact ⟨_, rfl, hown', hb5⟩

theorem entry_any (s : ByteArray) (hs : s.size ≤ 70000) (w : World) (hG : Glob w) : Calls Tryz.prog 309 #[.string s] w (EntryOk s w) := by
  cases hn : numOf s.data.toList with
  | none =>
    by_cases hl : s.size < 128
    · exact entry_short s hs hn hl w hG
    · exact entry_long s hs hn hl w hG
  | some n =>
    by_cases h8 : -128 ≤ n ∧ n < 128
    · exact entry_i8 s hs n hn h8 w hG
    · by_cases h16 : -32768 ≤ n ∧ n < 32768
      · exact entry_i16 s hs n hn h8 h16 w hG
      · by_cases h32 : -2147483648 ≤ n ∧ n < 2147483648
        · exact entry_i32 s hs n hn h16 h32 w hG
        · exact entry_i64 s hs n hn h32 w hG

end Go.Proofs.YtgmljeeeomjooaaGreatDoor
