/-
  Operations that make a block: what the evaluator says of them is true of the model.
-/
import Derived.Test.YtjjgdnelkkmdcaaGreatDoorEvSndH
set_option linter.all false
namespace Go.Ev

theorem range_zero (f : Nat → Value) : (Array.range 0).map f = #[] := by apply Array.ext'; simp

theorem rep_length (c : Nat) (z : List Value) : (rep c z).length = c * z.length := by
  induction c with
  | zero => simp [rep]
  | succ c ih => simp [rep, ih, Nat.add_mul, Nat.add_comm]

theorem rep_get (c : Nat) (z : List Value) : ∀ i, i < c * z.length → (rep c z)[i]? = z[i % z.length]? := by
  induction c with
  | zero => intro i h; simp at h
  | succ c ih =>
    intro i h
    simp only [rep]
    by_cases hi : i < z.length
    · rw [List.getElem?_append_left hi, Nat.mod_eq_of_lt hi]
    · rw [List.getElem?_append_right (by omega), ih (i - z.length) (by rw [Nat.add_mul] at h; omega)]
      congr 1
      rw [Nat.mod_eq_sub_mod (by omega : i ≥ z.length)]

/-- The zero cells of so many elements, over names and in the model. -/
theorem rep_rel {ρ : Rn} {c s : Nat} {z : List Value} {zv : Array Value} (hz : zv.toList = z) (hzz : LRel ρ z z) (hs : z.length = s) :
    LRel ρ (rep c z) ((Array.range (c * s)).map fun i => zv[i % zv.size]!).toList := by
  have hzs : zv.size = s := by rw [← hs, ← hz]; simp
  subst hs
  refine ⟨by rw [rep_length]; simp, fun i x y hx hy => ?_⟩
  have hi : i < c * z.length := by rw [← rep_length]; exact (List.getElem?_eq_some_iff.1 hx).1
  rw [rep_get c z i hi] at hx
  have hpos : 0 < z.length := by
    rcases Nat.eq_zero_or_pos z.length with e | e
    · rw [e] at hi; simp at hi
    · exact e
  have hm : i % z.length < zv.size := by rw [hzs]; exact Nat.mod_lt _ hpos
  generalize hk : i % z.length = k at hx hm
  have hy' : y = zv[k] := by
    simp [hi, hzs, hk] at hy
    rw [getElem!_pos zv k hm] at hy
    exact hy.symm
  have hzi : z[k]? = some zv[k] := by
    rw [← hz, Array.getElem?_toList]
    exact Array.getElem?_eq_getElem hm
  exact hzz.2 _ _ _ hx (by rw [hy']; exact hzi)

/-- A location of a block whose size is known. -/
def newLoc (w : World) : Loc := ⟨w.heap.size, 0, none, none⟩

theorem orel_cells {ρ : Rn} {cs : List Value} {cs' : Array Value} (h : LRel ρ cs cs'.toList) (el : TypeId) (str : Bool) (b : Nat) :
    ORel ρ ⟨b, 0, none, none⟩ (.cells cs el none str) (.cells cs' el (0, 0)) := by
  simp only [ORel]
  refine ⟨trivial, rfl, fun i v hv => ?_, fun i _ => by omega, fun _ i _ => by omega, fun _ i => by omega, fun _ => by trivial⟩
  obtain ⟨v', hv', hr⟩ := h.get hv
  exact ⟨v', by simpa using hv', hr⟩

section
variable {X : Cx} (ok : X.Ok) {ρ : Rn}
include ok

/-- What is said of an operation that makes a block. -/
def AllocSaid (X : Cx) (ρ : Rn) (H : Heap) (w : World) (o : Oper) (r : Operand → Value) (ob : AObj) (mk : Nat → Value) : Prop :=
  ∀ n, ρ n = none → ∃ L v' w', (execOp r o).run X.P w = .ok (.value v') w' ∧ Goes ρ H w (ρ.add n L) (H.set n ob) w' ∧ VRel (ρ.add n L) (mk n) v'

omit ok in
theorem alloc_cells {H : Heap} {w : World} (hw : WRel ρ H w) {o : Oper} {r : Operand → Value} {s : Sem Value} (hs : execOp r o = (do pure (.value (← s))))
    {cs : List Value} {cs' : Array Value} {el : TypeId} (hc : LRel ρ cs cs'.toList) {mk : Nat → Value} {mk' : Addr → Value}
    (hrun : s.run X.P w = .ok (mk' ⟨w.heap.size, 0, none⟩) { w with heap := w.heap.push (.cells cs' el (0, 0)) })
    (hmk : ∀ n, ρ n = none → VRel (ρ.add n (newLoc w)) (mk n) (mk' ⟨w.heap.size, 0, none⟩)) : AllocSaid X ρ H w o r (.cells cs el none false) mk := by
  intro n hn
  refine ⟨newLoc w, _, _, ?_, Goes.alloc hw hn rfl (orel_cells (hc.mono (Rn.ext_add hn)) el false _), hmk n hn⟩
  rw [hs]
  simp only [Sem.run_bind, hrun, Result.andThen_ok, Sem.run_pure]

omit ok in
theorem ptr_new {w : World} {n : Nat} : VRel (ρ.add n (newLoc w)) (.pointer (some ⟨n, 0, none⟩)) (.pointer (some ⟨w.heap.size, 0, none⟩)) :=
  .ptr (L := newLoc w) (Rn.add_same ..) rfl rfl rfl
omit ok in
theorem slice_new {w : World} {n l c : Nat} : VRel (ρ.add n (newLoc w)) (.slice (some ⟨n, 0, none⟩) l c) (.slice (some ⟨w.heap.size, 0, none⟩) l c) :=
  .slice (L := newLoc w) (Rn.add_same ..) rfl rfl rfl ⟨rfl, rfl⟩

theorem evAlloc_ok {o : Oper} {e : Operand → Option Value} {r : Operand → Value} (hr : OpRel ρ e r) {H : Heap} {w : World} (hw : WRel ρ H w) {ob : AObj} {mk : Nat → Value}
    (h : evAlloc X e o.op = some (ob, mk)) : AllocSaid X ρ H w o r ob mk := by
  obtain ⟨dst, op, ty, pos, after, guard⟩ := o
  simp only at h
  cases op with
  | alloc t =>
    simp only [evAlloc, Option.map_eq_some_iff] at h
    obtain ⟨z, hz, he⟩ := h
    cases he
    obtain ⟨zv, hzr, hzc, hzz⟩ := zero_ok (ρ := ρ) ok hz w
    refine alloc_cells hw (s := Instr.alloc t true (.tuple #[])) rfl (cs' := zv.cells) (by rw [hzc]; exact hzz) (mk' := fun a => .pointer (some a)) ?_ (fun n hn => ptr_new)
    unfold Instr.alloc newVar newRow
    simp [hzr]
  | box t x =>
    simp only [evAlloc, Option.map_eq_some_iff] at h
    obtain ⟨v, hv, he⟩ := h
    cases he
    refine alloc_cells hw (s := Instr.box t (r x)) rfl (cs' := (r x).cells) (hr x v hv).cells (mk' := fun a => .pointer (some a)) ?_ (fun n hn => ptr_new)
    unfold Instr.box newVar newRow
    simp
  | buildSlice t len parts =>
    simp only [evAlloc] at h
    split at h
    · rename_i el ps hu hps
      split at h
      · rename_i s hs
        cases hb : Nat.ble (len * s) 16777216 with
        | false => rw [hb, cond_false] at h; cases h
        | true =>
          rw [hb, cond_true] at h
          have hle := Nat.le_of_ble_eq_true hb
          split at h
          · rename_i z hz
            cases hc : (Nat.beq (len * s) 0 || Nat.beq z.length s) with
            | false => rw [hc, cond_false] at h; cases h
            | true =>
              rw [hc, cond_true] at h
              simp only [Option.map_eq_some_iff] at h
              obtain ⟨l, hl, he⟩ := h
              cases he
              have hpp := evParts_ok hr parts.toList ps hps
              have hn1 : ¬ len * s > 2 ^ 24 := by omega
              by_cases e0 : len * s = 0
              · rw [Tr.beq_true' e0, cond_true] at hl
                obtain ⟨a, ha, hra⟩ := fillB_ok (cs' := #[]) hpp hl (.nil ρ)
                refine alloc_cells hw (s := Instr.buildSlice t len (parts.map fun (i, x) => (i, r x))) rfl (cs' := a) hra (mk' := fun q => .slice (some q) len len) ?_ (fun n hn => slice_new)
                unfold Instr.buildSlice newRow
                simp only [Sem.run_bind, run_under ok hu, run_size ok hs, Result.andThen_ok, if_neg hn1, Sem.run_ite, if_pos e0, Sem.run_pure]
                have ha' : Instr.fill (fun i => some (i * s, s)) ((Array.range (len * s)).map fun i => (#[] : Array Value)[i % (#[] : Array Value).size]!) (parts.map fun (i, x) => (i, r x)).toList = some a := by
                  rw [e0, range_zero]; simpa using ha
                simp only [ha', run_newObj, Result.andThen_ok, Sem.run_pure, Sem.run_bind]
              · rw [Tr.beq_false' e0, cond_false] at hl hz
                rw [Tr.beq_false' e0, Bool.false_or] at hc
                have hzs := Nat.eq_of_beq_eq_true hc
                obtain ⟨zv, hzr, hzc, hzz⟩ := zero_ok (ρ := ρ) ok hz w
                obtain ⟨a, ha, hra⟩ := fillB_ok hpp hl (rep_rel hzc hzz hzs)
                refine alloc_cells hw (s := Instr.buildSlice t len (parts.map fun (i, x) => (i, r x))) rfl (cs' := a) hra (mk' := fun q => .slice (some q) len len) ?_ (fun n hn => slice_new)
                unfold Instr.buildSlice newRow
                simp only [Sem.run_bind, run_under ok hu, run_size ok hs, Result.andThen_ok, if_neg hn1, Sem.run_ite, if_neg e0, hzr, Sem.run_pure]
                have ha' : Instr.fill (fun i => some (i * s, s)) ((Array.range (len * s)).map fun i => zv.cells[i % zv.cells.size]!) (parts.map fun (i, x) => (i, r x)).toList = some a := by
                  simpa using ha
                simp only [ha', run_newObj, Result.andThen_ok, Sem.run_pure, Sem.run_bind]
          · cases h
      · cases h
    · cases h
  | makeSlice t l c =>
    simp only [evAlloc] at h
    split at h
    · rename_i el k1 ln k2 cp hu hl hc
      split at h
      · rename_i s b hs hb
        cases hcond : (Nat.ble ln cp && Nat.ble cp 1125899906842624 && Nat.ble (b * cp) 281474976710656) with
        | false => rw [hcond, cond_false] at h; cases h
        | true =>
          rw [hcond, cond_true] at h
          simp only [Bool.and_eq_true] at hcond
          have q1 := Nat.le_of_ble_eq_true hcond.1.1
          have q2 := Nat.le_of_ble_eq_true hcond.1.2
          have q3 := Nat.le_of_ble_eq_true hcond.2
          split at h
          · rename_i z hz
            cases hcz : (Nat.beq (cp * s) 0 || Nat.beq z.length s) with
            | false => rw [hcz, cond_false] at h; cases h
            | true =>
              rw [hcz, cond_true] at h
              cases h
              have hl' := (hr l _ hl).unint
              have hc' := (hr c _ hc).unint
              have hbi : ∃ i, X.ty.get el = some i ∧ i.bytes = b := by
                unfold Cx.bytes at hb
                simp only [Option.map_eq_some_iff] at hb
                exact hb
              obtain ⟨i, hi, hib⟩ := hbi
              have wr : ∀ n : Nat, n ≤ 1125899906842624 → IntKind.i64.wrap (Int.ofNat n) = (n : Int) := by
                intro n hn
                rw [← wrapF_eq]
                unfold wrapF toM
                have hm : n % modK .i64 = n := Nat.mod_eq_of_lt (by simp only [modK]; omega)
                have hlt : Nat.blt n (halfK .i64) = true := by rw [Nat.blt_eq]; simp only [halfK]; omega
                simp only [hm, hlt, cond_true]; rfl
              have w1 := wr ln (by omega)
              have w2 := wr cp q2
              have tl : (decide ((cp : Int) < 0) || decide ((i.bytes : Int) * (cp : Int) > 2 ^ 48)) = false := by
                rw [hib]
                have : ((b : Int) * (cp : Int)) = ((b * cp : Nat) : Int) := by simp
                rw [this]
                simp
                omega
              have fin : ∀ (zz : Array Value), ((if cp * s = 0 then pure #[] else do pure (← zeroValue el).cells : Sem (Array Value))).run X.P w = .ok zz w →
                  LRel ρ (bif Nat.beq (cp * s) 0 then [] else rep cp z) ((Array.range (cp * s)).map fun i => zz[i % zz.size]!).toList →
                  AllocSaid X ρ H w ⟨dst, .makeSlice t l c, ty, pos, after, guard⟩ r (.cells (bif Nat.beq (cp * s) 0 then [] else rep cp z) el none false) (fun n => .slice (some ⟨n, 0, none⟩) ln cp) := by
                intro zz hzr hzl
                refine alloc_cells hw (s := Instr.makeSlice t (r l) (r c)) rfl (cs' := (Array.range (cp * s)).map fun i => zz[i % zz.size]!) hzl (mk' := fun q => .slice (some q) ln cp) ?_ (fun n hn => slice_new)
                rw [hl', hc']
                unfold Instr.makeSlice newRow
                simp only [Sem.run_bind, run_under ok hu, Result.andThen_ok, asInt, asIntOf, Sem.run_pure, run_info ok hi, w1, w2, tl]
                have c1 : (false || decide ((ln : Int) < 0) || decide ((ln : Int) > (cp : Int))) = false := by
                  simp; omega
                rw [c1]
                simp only [Bool.false_eq_true, if_false, Sem.run_bind, run_askRoom, Result.andThen_ok, run_size ok hs, Int.toNat_natCast]
                by_cases e0 : cp * s = 0
                · rw [if_pos e0] at hzr ⊢
                  simp only [Sem.run_pure] at hzr
                  cases hzr
                  simp only [pure_bind, Sem.run_bind, run_newObj, Result.andThen_ok, Sem.run_pure]
                · rw [if_neg e0] at hzr ⊢
                  simp only [Sem.run_bind, Sem.run_pure] at hzr ⊢
                  cases hz0 : (zeroValue el).run X.P w with
                  | halt hh w' => rw [hz0] at hzr; cases hzr
                  | ok q w' =>
                    rw [hz0] at hzr
                    simp only [Result.andThen_ok] at hzr
                    cases hzr
                    simp only [Result.andThen_ok, run_newObj]
              by_cases e0 : cp * s = 0
              · refine fin #[] (by simp [e0]) ?_
                rw [Tr.beq_true' e0, cond_true, e0, range_zero]; exact .nil ρ
              · rw [Tr.beq_false' e0, cond_false] at hz
                rw [Tr.beq_false' e0, Bool.false_or] at hcz
                have hzs := Nat.eq_of_beq_eq_true hcz
                obtain ⟨zv, hzr, hzc, hzz⟩ := zero_ok (ρ := ρ) ok hz w
                refine fin zv.cells (by rw [if_neg e0]; simp [hzr]) ?_
                rw [Tr.beq_false' e0, cond_false]
                exact rep_rel hzc hzz hzs
          · cases h
      · cases h
    · cases h
  | makeMap t rs =>
    have fin : ∀ (s : Sem Value), execOp r ⟨dst, .makeMap t rs, ty, pos, after, guard⟩ = (do pure (.value (← s))) → s.run X.P w = .ok (.map (some w.heap.size)) { w with heap := w.heap.push (.map #[] 0) } →
        AllocSaid X ρ H w ⟨dst, .makeMap t rs, ty, pos, after, guard⟩ r (.map [] 0) (fun n => .map (some n)) := by
      intro s hs hrun n hn
      refine ⟨newLoc w, _, _, ?_, Goes.alloc hw hn (o' := .map #[] 0) rfl ?_, .map (L := newLoc w) (Rn.add_same ..)⟩
      · rw [hs]; simp only [Sem.run_bind, hrun, Result.andThen_ok, Sem.run_pure, newLoc]
      · simp only [ORel]
        exact ⟨trivial, rfl, fun i e e' h => by simp at h⟩
    simp only [evAlloc] at h
    split at h
    · cases h
      exact fin (Instr.makeMap t none) rfl (by unfold Instr.makeMap; simp)
    · rename_i x
      split at h
      · rename_i k el kk n hu hx
        cases h
        have hx' := (hr x _ hx).unint
        exact fin (Instr.makeMap t (some (r x))) rfl (by unfold Instr.makeMap; rw [hx']; simp [run_under ok hu, asInt, asIntOf])
      · cases h
  | convert s d x =>
    simp only [evAlloc] at h
    split at h
    · rename_i el st hs hd hx
      split at h
      · rename_i hel
        cases h
        have hx' := (hr x _ hx).unstr
        intro n hn
        have hq : ∃ cap w1, (choose (.appendCap st.size 0 el)).run X.P w = .ok cap w1 ∧ st.size ≤ cap ∧ w1 = { w with drawn := w1.drawn } := by
          rw [run_choose]
          by_cases hf : (Question.appendCap st.size 0 el).forced = true
          · simp [Question.forced] at hf
          · rw [if_neg hf]
            exact ⟨_, _, rfl, by simp [Question.cut], rfl⟩
        obtain ⟨cap, w1, hc, hcap, hw1⟩ := hq
        have hh : w1.heap = w.heap := by rw [hw1]
        have rel1 : WRel ρ H w1 := by rw [hw1]; exact hw.draw _
        have g1 : Goes ρ H w ρ H w1 := by rw [hw1]; exact Goes.draw hw _
        let cells' : Array Value := (st.data.map fun b => .int .u8 b.toNat) ++ Array.replicate (cap - st.size) (.int .u8 0)
        have hsz : cells'.size = cap := by
          simp only [cells', Array.size_append, Array.size_map, Array.size_replicate]
          have : st.data.size = st.size := rfl
          omega
        let L : Loc := ⟨w1.heap.size, 0, some (1, cap), none⟩
        have hg := Goes.alloc rel1 (n := n) (L := L) (o := .cells (u8s st) el (some 1) true) (o' := .cells cells' el (cap, cap + 1)) hn rfl (by
          simp only [ORel]
          refine ⟨trivial, by simp [L, hsz], fun i v hv => ?_, fun i hi => ?_, fun _ i hi => by rw [hsz] at hi; simp; omega, (fun h => by cases h), (fun h => by cases h)⟩
          · have hlt : i < st.data.size := by
              have := (List.getElem?_eq_some_iff.1 hv).1
              simpa [u8s] using this
            refine ⟨v, ?_, ?_⟩
            · simp only [L, Nat.add_zero, cells']
              rw [Array.getElem?_append_left (by simpa using hlt)]
              simp only [u8s, List.getElem?_map, Array.getElem?_toList] at hv
              simpa using hv
            · simp only [u8s, List.getElem?_map, Option.map_eq_some_iff] at hv
              obtain ⟨b, _, rfl⟩ := hv
              exact .int _ _
          · have h1 : (u8s st).length = st.size := by simp [u8s]
            simp only [L, hsz] at hi ⊢
            omega)
        refine ⟨L, .slice (some ⟨w1.heap.size, 0, none⟩) st.size cap, { w1 with heap := w1.heap.push (.cells cells' el (cap, cap + 1)) }, ?_, g1.trans hg, ?_⟩
        · show (do pure (Next.value (← Go.convert s d (r x)))).run X.P w = _
          rw [hx']
          unfold Go.convert
          simp only [Sem.run_bind, run_under ok hs, run_under ok hd, Result.andThen_ok, run_under ok hel]
          unfold Conv.stringToBytes newRow markStringish
          simp only [Sem.run_bind, hc, Result.andThen_ok, run_newObj, Sem.run_pure, run_shape]
          have hshape : World.shape? { w1 with heap := w1.heap.push (.cells cells' el (0, 0)) } w1.heap.size = some (el, cap) := by
            unfold World.shape?
            simp [hsz]
          have e1 : (Array.map (fun b => Value.int IntKind.u8 ↑(UInt8.toNat b)) st.data ++ Array.replicate (cap - st.size) (Value.int IntKind.u8 0)) = cells' := rfl
          rw [e1, hshape]
          simp only [run_freeze, Result.andThen_ok, Sem.run_pure]
          congr 1
          unfold World.freeze
          simp only [Nat.one_ne_zero, if_false]
          congr 1
          apply Array.ext
          · simp
          · intro i h1 h2
            simp only [Array.size_modify, Array.size_push] at h1
            rw [Array.getElem_modify]
            by_cases e : w1.heap.size = i
            · subst e; simp
            · have hlt : i < w1.heap.size := by omega
              simp [e, Array.getElem_push, hlt]
        · have hlen : st.data.toList.length = st.size := (size_data st).symm
          rw [hlen]
          refine .slice (L := L) (Rn.add_same ..) rfl rfl rfl ?_
          simp only [SlRel, L]
          exact ⟨hcap, by omega, fun _ => by simp⟩
      · cases h
    · cases h
  | _ => simp [evAlloc] at h

end
end Go.Ev
