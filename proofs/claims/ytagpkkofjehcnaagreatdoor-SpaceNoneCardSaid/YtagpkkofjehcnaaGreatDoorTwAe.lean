/-
  An Ask as the statement reads it: its cells, its lists.
-/
import Derived.Test.YtagpkkofjehcnaaGreatDoorTwAd
import Derived.Test.YtagpkkofjehcnaaGreatDoorTwAc
set_option linter.all false
namespace Go.Proofs.YtagpkkofjehcnaaGreatDoor
open Go Go.RowKit Go.ChangeShapes Go.WideShapes Go.Deep

theorem Tryz.c9 : Tryz.prog.cellsOf 9 = 1 := by kernel_rfl
theorem Tryz.c31 : Tryz.prog.cellsOf 31 = 1 := by kernel_rfl
theorem Tryz.c32 : Tryz.prog.cellsOf 32 = 1 := by kernel_rfl
theorem Tryz.c33 : Tryz.prog.cellsOf 33 = 1 := by kernel_rfl
theorem Tryz.c34 : Tryz.prog.cellsOf 34 = 1 := by kernel_rfl
theorem Tryz.c36 : Tryz.prog.cellsOf 36 = 2 := by kernel_rfl
theorem Tryz.c38 : Tryz.prog.cellsOf 38 = 9 := by kernel_rfl
theorem Tryz.c41 : Tryz.prog.cellsOf 41 = 17 := by kernel_rfl
theorem Tryz.c126 : Tryz.prog.cellsOf 126 = 2 := by kernel_rfl
theorem Tryz.c129 : Tryz.prog.cellsOf 129 = 3 := by kernel_rfl
theorem Tryz.c123 : Tryz.prog.cellsOf 123 = 2 := by kernel_rfl
theorem Tryz.b9 : Tryz.prog.bytesOf 9 = 16 := by kernel_rfl
theorem Tryz.b41 : Tryz.prog.bytesOf 41 = 232 := by kernel_rfl
theorem Tryz.b126 : Tryz.prog.bytesOf 126 = 24 := by kernel_rfl
theorem Tryz.b129 : Tryz.prog.bytesOf 129 = 40 := by kernel_rfl
theorem Tryz.b123 : Tryz.prog.bytesOf 123 = 32 := by kernel_rfl

section
variable {H : Type} {enc : TypeId × Value → H} {w : World}

theorem fld {P : Program} {fs : Array Field} {n : Nat} {cs : List Value} (hf : ∀ (i : Nat) (f : Field), fs[i]? = some f → ∃ y, trd enc P w n f.type ((cs.drop f.offset).take (P.cellsOf f.type)) = some y ∧ Sized P f.type y.1)
    (i : Nat) {f : Field} {c : Nat} (hi : fs[i]? = some f) (hc : P.cellsOf f.type = c) : ∃ y, trd enc P w n f.type ((cs.drop f.offset).take c) = some y ∧ Sized P f.type y.1 := by
  subst hc
  exact hf i f hi

theorem pairs_read {fuel : Nat} {v : Value} {x : DataW H × List MemPlace} (h : trd enc Tryz.prog w fuel 32 [v] = some x) (hs : Sized Tryz.prog 32 x.1) :
    ∃ (n : Nat) (f g : Nat → ByteArray), Row2At w v n (strs f) (strs g) ∧ n * 32 ≤ 140737488351232 := by
  have := row2_read (mk := fun s : ByteArray => .string s) Tryz.underlying32 Tryz.underlying123 Tryz.c123 rfl rfl Tryz.c9 Tryz.c9 Tryz.underlying9 (fun _ _ _ h => string_read Tryz.underlying9 h) h hs
  rw [Tryz.b123] at this
  exact this

theorem scoreds_read {fuel : Nat} {v : Value} {x : DataW H × List MemPlace} (h : trd enc Tryz.prog w fuel 33 [v] = some x) (hs : Sized Tryz.prog 33 x.1) :
    ∃ (n : Nat) (f : Nat → ByteArray) (g : Nat → Nat), Row2At w v n (strs f) (flts g) ∧ n * 24 ≤ 140737488351232 := by
  have := row2_read (mk := fun s : Nat => .float .f64 s) Tryz.underlying33 Tryz.underlying126 Tryz.c126 rfl rfl Tryz.c9 (by kernel_rfl) Tryz.underlying9 (fun _ _ _ h => float_read (by kernel_rfl) h) h hs
  rw [Tryz.b126] at this
  exact this

/-- An entry's content. -/
structure EntD where
  ms : Int
  seq : Int
  p : Option Addr
  l : Nat
  c : Nat
  m : Nat
  f : Nat → ByteArray
  g : Nat → ByteArray
instance : Inhabited EntD := ⟨⟨0, 0, none, 0, 0, 0, fun _ => default, fun _ => default⟩⟩

theorem id_read {n : Nat} {a b : Value} {x : DataW H × List MemPlace} (h : trd enc Tryz.prog w n 36 [a, b] = some x) (hs : Sized Tryz.prog 36 x.1) : ∃ ms seq, a = .int .u64 ms ∧ b = .int .u64 seq := by
  obtain ⟨n, hf⟩ := struct_read Tryz.underlying36 h hs
  obtain ⟨y0, h0, _⟩ := fld hf 0 rfl (c := 1) (by kernel_rfl)
  obtain ⟨y1, h1, _⟩ := fld hf 1 rfl (c := 1) (by kernel_rfl)
  obtain ⟨ms, rfl, _⟩ := int_read (k := .u64) (by kernel_rfl) h0
  obtain ⟨seq, rfl, _⟩ := int_read (k := .u64) (by kernel_rfl) h1
  exact ⟨ms, seq, rfl, rfl⟩

set_option maxRecDepth 100000 in
theorem entries_read {fuel : Nat} {v : Value} {x : DataW H × List MemPlace} (h : trd enc Tryz.prog w fuel 34 [v] = some x) (hs : Sized Tryz.prog 34 x.1) :
    ∃ E : Ents, RowEAt w v E ∧ E.n * 40 ≤ 140737488351232 := by
  rcases slice_read Tryz.underlying34 (by rw [Tryz.c129]; omega) h hs with ⟨q, hq⟩ | ⟨b, off, len, cap, hq, hb, hl, hi⟩
  · exact ⟨⟨0, fun _ => 0, fun _ => 0, fun _ => none, fun _ => 0, fun _ => 0, fun _ => 0, fun _ _ => default, fun _ _ => default⟩, ⟨.inl ⟨⟨q, by simpa using hq⟩, rfl⟩, fun j hj => absurd hj (Nat.not_lt_zero _)⟩, by simp⟩
  · rw [Tryz.c129] at hi
    rw [Tryz.b129] at hl
    have : ∀ i, i < len → ∃ s : EntD, (w.cell? ⟨b, off + i * 3, none⟩ = some (.int .u64 s.ms) ∧ w.cell? ⟨b, off + i * 3 + 1, none⟩ = some (.int .u64 s.seq) ∧ w.cell? ⟨b, off + i * 3 + 2, none⟩ = some (.slice s.p s.l s.c)) ∧ s.m * 32 ≤ 140737488351232 ∧ Row2At w (.slice s.p s.l s.c) s.m (strs s.f) (strs s.g) := by
      intro i hil
      obtain ⟨cs', n, y, hcl, hat, hy, hys⟩ := hi i hil
      obtain ⟨n', hf⟩ := struct_read Tryz.underlying129 hy hys
      match cs', hcl with
      | [a, d, e], _ =>
        obtain ⟨y0, h0, s0⟩ := fld hf 0 rfl Tryz.c36
        obtain ⟨y1, h1, s1⟩ := fld hf 1 rfl Tryz.c32
        obtain ⟨ms, seq, rfl, rfl⟩ := id_read h0 s0
        obtain ⟨m, f, g, hr, hm⟩ := pairs_read h1 s1
        obtain ⟨p, l, c, rfl⟩ := hr.form
        exact ⟨⟨ms, seq, p, l, c, m, f, g⟩, ⟨by simpa using hat 0 (by omega), by simpa using hat 1 (by omega), by simpa using hat 2 (by omega)⟩, hm, hr⟩
    obtain ⟨D, hD⟩ := choose_lt this
    exact ⟨⟨len, fun j => (D j).ms, fun j => (D j).seq, fun j => (D j).p, fun j => (D j).l, fun j => (D j).c, fun j => (D j).m, fun j => (D j).f, fun j => (D j).g⟩,
      ⟨.inr ⟨b, off, cap, by simpa using hq, hb, fun j hj => (hD j hj).1⟩, fun j hj => (hD j hj).2⟩, hl⟩

set_option maxRecDepth 100000 in
theorem value_read {n : Nat} {v0 v1 a b c d e v7 v8 : Value} {x : DataW H × List MemPlace} (h : trd enc Tryz.prog w n 38 [v0, v1, a, b, c, d, e, v7, v8] = some x) (hs : Sized Tryz.prog 38 x.1) :
    ∃ V : Val, v0 = .int .u8 V.kind ∧ v1 = .string V.text ∧ v7 = .int .u64 V.ms ∧ v8 = .int .u64 V.seq ∧ V.short ∧ ValAt w V a b c d e := by
  obtain ⟨n, hf⟩ := struct_read Tryz.underlying38 h hs
  obtain ⟨y0, h0, _⟩ := fld hf 0 rfl (c := 1) (by kernel_rfl)
  obtain ⟨y1, h1, _⟩ := fld hf 1 rfl Tryz.c9
  obtain ⟨y2, h2, s2⟩ := fld hf 2 rfl Tryz.c31
  obtain ⟨y3, h3, s3⟩ := fld hf 3 rfl Tryz.c32
  obtain ⟨y4, h4, s4⟩ := fld hf 4 rfl Tryz.c31
  obtain ⟨y5, h5, s5⟩ := fld hf 5 rfl Tryz.c33
  obtain ⟨y6, h6, s6⟩ := fld hf 6 rfl Tryz.c34
  obtain ⟨y7, h7, s7⟩ := fld hf 7 rfl Tryz.c36
  obtain ⟨kind, rfl, _⟩ := int_read (k := .u8) (by kernel_rfl) h0
  obtain ⟨text, rfl⟩ := string_read Tryz.underlying9 h1
  obtain ⟨n1, f1, r1, b1⟩ := row1_read Tryz.underlying31 Tryz.underlying9 Tryz.c9 Tryz.b9 h2 s2
  obtain ⟨n2, f2, g2, r2, b2⟩ := pairs_read h3 s3
  obtain ⟨n3, f3, r3, b3⟩ := row1_read Tryz.underlying31 Tryz.underlying9 Tryz.c9 Tryz.b9 h4 s4
  obtain ⟨n4, f4, h4', r4, b4⟩ := scoreds_read h5 s5
  obtain ⟨E, r5, b5⟩ := entries_read h6 s6
  obtain ⟨ms, seq, rfl, rfl⟩ := id_read h7 s7
  exact ⟨⟨kind, text, n1, f1, n2, f2, g2, n3, f3, n4, f4, h4', E, ms, seq⟩, rfl, rfl, rfl, rfl, ⟨b1, b2, b3, b4, b5⟩, ⟨r1, r2, r3, r4, r5⟩⟩

def askList (A : AskD) : List Value := [.int .u8 A.kind, .int .i64 A.db, A.key, .int .u8 A.V.kind, .string A.V.text, A.a, A.b, A.c, A.d, A.e, .int .u64 A.V.ms, .int .u64 A.V.seq, A.keep, A.now, A.most, A.pol, A.cur]

set_option maxRecDepth 100000 in
theorem ask_read {n : Nat} {cs : List Value} {x : DataW H × List MemPlace} (hl : cs.length = 17) (h : trd enc Tryz.prog w n 41 cs = some x) (hs : Sized Tryz.prog 41 x.1) : ∃ A : AskD, cs = askList A ∧ AskOk w A := by
  obtain ⟨n, hf⟩ := struct_read Tryz.underlying41 h hs
  match cs, hl with
  | [v0, v1, v2, v3, v4, v5, v6, v7, v8, v9, v10, v11, v12, v13, v14, v15, v16], _ =>
    obtain ⟨y0, h0, _⟩ := fld hf 0 rfl (c := 1) (by kernel_rfl)
    obtain ⟨y1, h1, _⟩ := fld hf 1 rfl (c := 1) (by kernel_rfl)
    obtain ⟨y2, h2, _⟩ := fld hf 2 rfl Tryz.c9
    obtain ⟨y3, h3, s3⟩ := fld hf 3 rfl Tryz.c38
    obtain ⟨y4, h4, _⟩ := fld hf 4 rfl (c := 1) (by kernel_rfl)
    obtain ⟨y5, h5, _⟩ := fld hf 5 rfl (c := 1) (by kernel_rfl)
    obtain ⟨y6, h6, _⟩ := fld hf 6 rfl (c := 1) (by kernel_rfl)
    obtain ⟨y7, h7, _⟩ := fld hf 7 rfl (c := 1) (by kernel_rfl)
    obtain ⟨y8, h8, _⟩ := fld hf 8 rfl (c := 1) (by kernel_rfl)
    obtain ⟨kind, rfl, k1, k2⟩ := int_read (k := .u8) (by kernel_rfl) h0
    obtain ⟨db, rfl, _⟩ := int_read (k := .i64) (by kernel_rfl) h1
    obtain ⟨key, rfl⟩ := string_read Tryz.underlying9 h2
    obtain ⟨V, rfl, rfl, rfl, rfl, hV, hat⟩ := value_read h3 s3
    obtain ⟨keep, rfl⟩ := bool_read (by kernel_rfl) h4
    obtain ⟨now, rfl, _⟩ := int_read (k := .i64) (by kernel_rfl) h5
    obtain ⟨most, rfl, _⟩ := int_read (k := .i64) (by kernel_rfl) h6
    obtain ⟨pol, rfl, _⟩ := int_read (k := .u8) (by kernel_rfl) h7
    obtain ⟨cur, rfl, _⟩ := int_read (k := .u64) (by kernel_rfl) h8
    have k1 : 0 ≤ kind := k1
    have k2 : kind ≤ 255 := k2
    refine ⟨⟨kind.toNat, db, .string key, V, v5, v6, v7, v8, v9, .bool keep, .int .i64 now, .int .i64 most, .int .u8 pol, .int .u64 cur⟩, ?_, ?_, hV, hat, ?_, ?_, ?_, ?_, ?_, ?_⟩
    · unfold askList
      rw [show ((kind.toNat : Nat) : Int) = kind by omega]
    · show kind.toNat < 256
      omega
    all_goals exact fun c => ⟨by simp, by simp⟩

set_option maxRecDepth 100000 in
theorem asks_read {fuel : Nat} {v : Value} {x : DataW H × List MemPlace} (h : trd enc Tryz.prog w fuel 22 [v] = some x) (hs : Sized Tryz.prog 22 x.1) :
    (∃ q, v = .slice q 0 0) ∨ ∃ (b off len cap : Nat) (A : Nat → AskD), v = .slice (some ⟨b, off, none⟩) len cap ∧ b < w.heap.size ∧ len * 232 ≤ 140737488351232 ∧ (∀ j, j < len → AskIn w b (off + j * 17) (A j)) ∧ ∀ j, j < len → AskOk w (A j) := by
  rcases slice_read Tryz.underlying22 (by rw [Tryz.c41]; omega) h hs with ⟨q, hq⟩ | ⟨b, off, len, cap, hq, hb, hl, hi⟩
  · exact .inl ⟨q, by simpa using hq⟩
  · rw [Tryz.c41] at hi
    rw [Tryz.b41] at hl
    have hall : ∀ i, i < len → ∃ A : AskD, AskIn w b (off + i * 17) A ∧ AskOk w A := by
      intro i hil
      obtain ⟨cs', n, y, hcl, hat, hy, hys⟩ := hi i hil
      obtain ⟨A, rfl, hA⟩ := ask_read hcl hy hys
      refine ⟨A, ⟨by simpa [askList] using hat 0 (by omega), by simpa [askList] using hat 1 (by omega), by simpa [askList] using hat 2 (by omega), by simpa [askList] using hat 3 (by omega), by simpa [askList] using hat 4 (by omega), by simpa [askList] using hat 5 (by omega), by simpa [askList] using hat 6 (by omega), by simpa [askList] using hat 7 (by omega), by simpa [askList] using hat 8 (by omega), by simpa [askList] using hat 9 (by omega), by simpa [askList] using hat 10 (by omega), by simpa [askList] using hat 11 (by omega), by simpa [askList] using hat 12 (by omega), by simpa [askList] using hat 13 (by omega), by simpa [askList] using hat 14 (by omega), by simpa [askList] using hat 15 (by omega), by simpa [askList] using hat 16 (by omega)⟩, hA⟩
    have : ∃ f : Nat → AskD, ∀ i, i < len → AskIn w b (off + i * 17) (f i) ∧ AskOk w (f i) := by
      haveI : Inhabited AskD := ⟨⟨0, 0, undef, ⟨0, default, 0, fun _ => default, 0, fun _ => default, fun _ => default, 0, fun _ => default, 0, fun _ => default, fun _ => 0, ⟨0, fun _ => 0, fun _ => 0, fun _ => none, fun _ => 0, fun _ => 0, fun _ => 0, fun _ _ => default, fun _ _ => default⟩, 0, 0⟩, undef, undef, undef, undef, undef, undef, undef, undef, undef, undef⟩⟩
      exact choose_lt hall
    obtain ⟨A, hA⟩ := this
    exact .inr ⟨b, off, len, cap, A, by simpa using hq, hb, hl, fun j hj => (hA j hj).1, fun j hj => (hA j hj).2⟩
end

theorem space_row {H : Type} {enc : TypeId × Value → H} (v : Value) (w : World) {d : DataW H} {ps : List MemPlace} (h : DataW.Trod enc Tryz.prog w 0 (fun _ => true) true 22 v d ps) (hv : v.cells.toList = [v]) (hs : Sized Tryz.prog 22 d) :
    Calls Tryz.prog 3 #[v] w fun e w' => e = .returned (.bool true) ∧ Below w.heap.size w w' := by
  obtain ⟨fuel, hf⟩ := h
  rw [hv] at hf
  rcases asks_read hf hs with ⟨q, rfl⟩ | ⟨b, off, len, cap, A, rfl, hb, hl, hc, hok⟩
  · exact space_nil q w
  · exact space_any b off len cap A w hl hb hc hok

end Go.Proofs.YtagpkkofjehcnaaGreatDoor
