/-
  append: the whole.
-/
import Derived.Test.YtjjgdnelkkmdcaaGreatDoorEvSndK
set_option linter.all false
namespace Go.Ev

section
variable {X : Cx} {ρ : Rn}

theorem appendCap_run {P : Program} {w : World} (need cap : Nat) (el : TypeId) : ∃ newCap w1, (choose (.appendCap need cap el)).run P w = .ok newCap w1 ∧ need ≤ newCap ∧ w1 = { w with drawn := w1.drawn } := by
  rw [run_choose]
  by_cases hf : (Question.appendCap need cap el).forced = true
  · simp [Question.forced] at hf
  · rw [if_neg hf]
    exact ⟨_, _, rfl, by simp [Question.cut], rfl⟩

theorem zeroCells_size (z : Array Value) (n : Nat) : (Builtin.zeroCells z n).size = n * z.size := by simp [Builtin.zeroCells]

theorem lrel_lists {a b : List Value} {c d : List Value} (h : LRel ρ a b) (k : LRel ρ c d) : LRel ρ (a ++ c) (b ++ d) := h.append k

theorem appendA_ok (ok : X.Ok) {H H' : Heap} {w : World} (hw : WRel ρ H w) {argTypes : Array TypeId} {ty t u el : TypeId} {du : TypeDesc} {size bytes : Nat} {z : List Value} {s x s' x' v : Value} {n : Nat}
    (h0 : argTypes[0]? = some t) (h1 : argTypes[1]? = some u) (hu : X.under t = some (.slice el)) (hdu : X.under u = some du) (hni : isIntD du = false)
    (hs : X.size el = some size) (hby : X.bytes el = some bytes) (hz : X.zero el = some z) (hn : ρ n = none) (hsr : VRel ρ s s') (hxr : VRel ρ x x')
    (h : appendA el size bytes z s x n H = some (v, H')) :
    ∃ ρ' v' w', (Builtin.append_ argTypes ty #[s', x']).run X.P w = .ok v' w' ∧ VRel ρ' v v' ∧ Goes ρ H w ρ' H' w' ∧ (∀ m, m ≠ n → ρ' m = ρ m) := by
  unfold appendA at h
  split at h
  · rename_i base len cap k hk
    cases hnew : firstA H size k x with
    | none => rw [hnew] at h; simp at h
    | some new =>
      rw [hnew] at h
      simp only at h
      obtain ⟨new', hrn0, hnr⟩ := firstA_all (X := X) hw hnew hk (Nat.le_refl _) hxr
      have hrn := hrn0 w rfl
      have hlen := lenOf_ok (X := X) hk hxr w
      cases hfit : Nat.ble (len + k) cap with
      | true =>
        rw [hfit, cond_true] at h
        have hle := Nat.le_of_ble_eq_true hfit
        cases base with
        | none =>
          simp only at h; cases h
          cases hsr with
          | sliceNil _ _ =>
          exact ⟨ρ, _, w, append_fits ok h0 h1 hu hdu hni hs hlen hle hrn rfl, .sliceNil _ _, .refl hw, fun _ _ => rfl⟩
        | some a =>
          simp only [Option.map_eq_some_iff] at h
          obtain ⟨K, hK, he⟩ := h
          cases he
          cases hsr with
          | @slice _ a' _ _ cap' L p1 p2 p3 p3' p4 =>
          have hcap : cap ≤ cap' ∧ (0 < cap → a'.off = a.off + L.shift) := by
            unfold SlRel at p4
            split at p4
            · exact ⟨by omega, fun _ => p4.1⟩
            · exact ⟨p4.1, fun hp => p4.2.2 (by omega)⟩
          have hstore : ∃ w', (storeCells (a'.add (len * size)) new'.toArray.toList).run X.P w = .ok () w' ∧ Goes ρ H w ρ H' w' := by
            by_cases hc0 : 0 < cap
            · refine storeA_ok hw hK (vs' := new') hnr (L := L) ?_ (by rw [add_block]; exact p2) ?_ ?_
              · rw [addrAdd_eq, add_block]; exact p1
              · rw [add_off, addrAdd_eq, add_off, hcap.2 hc0]; omega
              · rw [add_spot p3', addrAdd_eq, add_spot p3]
            · have hk0 : k = 0 := by omega
              have hne : new = [] := by
                subst hk0
                unfold firstA at hnew
                split at hnew
                · unfold cellsAt at hnew
                  split at hnew
                  · obtain ⟨_, rfl⟩ := cut_ok hnew; simp
                  · cases hnew
                · cases hnew; rfl
                · cases hnew; simp
                · cases hnew
              subst hne
              have hne' := hnr.unnil
              subst hne'
              exact ⟨w, by simp [storeCells], storeA_nil hw hK⟩
          obtain ⟨w', hst, hg⟩ := hstore
          refine ⟨ρ, _, w', append_fits ok h0 h1 hu hdu hni hs hlen (Nat.le_trans hle hcap.1) hrn hst, ?_, hg, fun _ _ => rfl⟩
          refine .slice p1 p2 p3 p3' ?_
          unfold SlRel at p4 ⊢
          split
          · rename_i e; rw [e] at p4; exact p4
          · rename_i e; rw [e] at p4; exact ⟨p4.1, p4.2.1, fun _ => p4.2.2 (by omega)⟩
      | false =>
        rw [hfit, cond_false] at h
        have hgr : cap < len + k := by
          rcases Nat.lt_or_ge cap (len + k) with q | q
          · exact q
          · rw [Nat.ble_eq_true_of_le q] at hfit; cases hfit
        cases hc : (Nat.ble ((len + k) * 2 + 192) 1048576 && Nat.ble bytes 1048576 && Nat.beq z.length size && Nat.beq new.length (k * size)) with
        | false => rw [hc, cond_false] at h; cases h
        | true =>
          rw [hc, cond_true] at h
          simp only [Bool.and_eq_true] at hc
          have b1 := Nat.le_of_ble_eq_true hc.1.1.1
          have b2 := Nat.le_of_ble_eq_true hc.1.1.2
          have b3 := Nat.eq_of_beq_eq_true hc.1.2
          have b4 := Nat.eq_of_beq_eq_true hc.2
          have hti : ∃ i, X.ty.get el = some i ∧ i.bytes = bytes := by
            unfold Cx.bytes at hby
            simp only [Option.map_eq_some_iff] at hby
            exact hby
          obtain ⟨i, hi, hib⟩ := hti
          have hzv : ∃ zv : Value, (∀ w, (zeroValue el).run X.P w = .ok zv w) ∧ zv.cells.size = size := by
            unfold Cx.zero at hz
            rw [hi] at hz
            simp only at hz
            cases hzz : i.zero with
            | none => rw [hzz] at hz; cases hz
            | some q =>
              rw [hzz] at hz; simp only at hz
              cases hcq : clos q with
              | false => rw [hcq, cond_false] at hz; cases hz
              | true =>
                rw [hcq, cond_true] at hz; cases hz
                exact ⟨q, fun w => run_zero_of ok hi hzz w, by rw [← b3]; simp⟩
          obtain ⟨zv, hzr, hzs⟩ := hzv
          have hnl : new'.length = k * size := by rw [← hnr.1]; exact b4
          -- a new block
          have fresh : ∀ (base' : Option Addr) (cap' : Nat) (old old' : List Value) (G : Heap) (str : Bool), cap' < len + k →
              (∀ w2, w2.heap = w.heap → (Builtin.firstCells size len (.slice base' len cap')).run X.P w2 = .ok old'.toArray w2) → LRel ρ old old' → old.length = len * size → WRel ρ G w → Goes ρ H w ρ G w →
              ∃ ρ' v' w', (Builtin.append_ argTypes ty #[.slice base' len cap', x']).run X.P w = .ok v' w' ∧
                VRel ρ' (.slice (some ⟨n, 0, none⟩) (len + k) (len + k)) v' ∧ Goes ρ H w ρ' (G.set n (.cells (old ++ new) el (some size) str)) w' ∧ (∀ m, m ≠ n → ρ' m = ρ m) := by
            intro base' cap' old old' G str hcg hold hor hol hG hgG
            obtain ⟨newCap, w1, hq, hnc, hw1⟩ := appendCap_run (P := X.P) (w := w) (len + k) cap' el
            have hh : w1.heap = w.heap := by rw [hw1]
            have hrn1 := hrn0 w1 hh
            have hrun := append_grows ok (x' := x') (base := base') (ty := ty) h0 h1 hu hdu hni hs hi hzr hlen hcg b1 (by rw [hib]; exact b2) hq (hold w1 hh) hrn1
            let cells' : Array Value := old'.toArray ++ new'.toArray ++ Builtin.zeroCells zv.cells (newCap - (len + k))
            have hol' : old'.length = len * size := by rw [← hor.1]; exact hol
            have htot : cells'.size = newCap * size := by
              simp only [cells', Array.size_append, List.size_toArray, zeroCells_size, hzs, hol', hnl]
              rw [← Nat.add_mul, ← Nat.add_mul]
              congr 1; omega
            let L : Loc := ⟨w1.heap.size, 0, some (size, cells'.size), none⟩
            have hG1 : WRel ρ G w1 := by rw [hw1]; exact hG.draw _
            have hg1 : Goes ρ G w ρ G w1 := by rw [hw1]; exact Goes.draw hG _
            have hg := Goes.alloc hG1 (n := n) (L := L) (o := .cells (old ++ new) el (some size) str) (o' := .cells cells' el (0, 0)) hn rfl (by
              simp only [ORel]
              refine ⟨trivial, rfl, fun j q hj => ?_, fun _ _ => by omega, fun _ _ _ => by omega, (fun _ _ => by omega), (fun h => by cases h)⟩
              have hl : LRel ρ (old ++ new) (old' ++ new') := hor.append hnr
              obtain ⟨q', hq', hqr⟩ := hl.get hj
              refine ⟨q', ?_, hqr.mono (Rn.ext_add hn)⟩
              simp only [L, Nat.add_zero, cells']
              have hjl : j < (old' ++ new').length := (List.getElem?_eq_some_iff.1 hq').1
              rw [Array.getElem?_append_left (by simpa using hjl)]
              rw [List.append_toArray]
              simpa using hq')
            refine ⟨ρ.add n L, _, _, hrun, ?_, hgG.trans (hg1.trans hg), fun m hm => Rn.add_ne hm⟩
            refine .slice (L := L) (Rn.add_same ..) rfl rfl rfl ?_
            simp only [SlRel, L]
            exact ⟨hnc, by rw [htot]; omega, fun _ => trivial⟩
          cases base with
          | none =>
            simp only at h
            cases hl0 : Nat.beq len 0 with
            | false => rw [hl0, cond_false] at h; cases h
            | true =>
              rw [hl0, cond_true] at h; cases h
              have hlz := Nat.eq_of_beq_eq_true hl0
              cases hsr with
              | sliceNil _ _ =>
              have := fresh none cap [] [] H false hgr (fun w2 _ => by simp [Builtin.firstCells]) (.nil ρ) (by simp [hlz]) hw (.refl hw)
              simpa using this
          | some a =>
            simp only at h
            cases hsr with
            | @slice _ a' _ _ cap' L p1 p2 p3 p3' p4 =>
            split at h
            · rename_i cs el2 str old hH hold
              cases h
              obtain ⟨M, o', hM, hmk, hrel⟩ := hw.obj a.block _ hH
              rw [p1] at hM; cases hM
              obtain ⟨cs', fz, rfl, hopn, _⟩ := hrel.cellsInv
              unfold SlRel at p4
              rw [hopn] at p4
              simp only [Option.map_none] at p4
              obtain ⟨hoff, rfl⟩ := p4
              obtain ⟨old', hro, hor, hol, _⟩ := cellsAt_all (X := X) hw hold p1 p2 hoff (p3'.trans p3.symm)
              exact fresh (some a') cap' old old' H false hgr (fun w2 hh2 => by unfold Builtin.firstCells; exact hro w2 hh2) hor hol hw (.refl hw)
            · rename_i cs el2 zz str old hH hold
              cases hzc : (Nat.beq zz size && new.all one && Nat.beq el2 el) with
              | false => rw [hzc, cond_false] at h; cases h
              | true =>
                rw [hzc, cond_true] at h; cases h
                simp only [Bool.and_eq_true] at hzc
                have hzz := Nat.eq_of_beq_eq_true hzc.1.1
                have hel := Nat.eq_of_beq_eq_true hzc.2
                subst hzz
                subst hel
                obtain ⟨M, o', hM, hmk, hrel⟩ := hw.obj a.block _ hH
                rw [p1] at hM; cases hM
                obtain ⟨cs', fz, rfl, hopn, hcell, hfr, hfo, hst⟩ := hrel.cellsInv
                have p4' := p4
                unfold SlRel at p4'
                rw [hopn] at p4'
                simp only [Option.map_some] at p4'
                obtain ⟨c1, c2, c3⟩ := p4'
                have hold' : ∃ old' : List Value, (∀ w2 : World, w2.heap = w.heap → (loadCells a' (len * zz)).run X.P w2 = .ok old'.toArray w2) ∧ LRel ρ old old' ∧ old.length = len * zz ∧
                    (∀ j q, old'[j]? = some q → cs'[a'.off + j]? = some q) := by
                  by_cases hl0 : len = 0
                  · subst hl0
                    have : old = [] := by
                      unfold cellsAt at hold
                      split at hold
                      · obtain ⟨_, rfl⟩ := cut_ok hold; simp
                      · cases hold
                    subst this
                    exact ⟨[], fun w2 _ => by simp [loadCells, loadCellsFrom], .nil ρ, by simp, fun j q hj => by simp at hj⟩
                  · obtain ⟨old', q1, q2, q3, q5⟩ := cellsAt_all (X := X) hw hold p1 p2 (c3 (by omega)) (p3'.trans p3.symm)
                    refine ⟨old', q1, q2, q3, fun j q hj => ?_⟩
                    have hq := q5 j q hj
                    unfold World.cell? at hq
                    rw [add_block, p2, hmk] at hq
                    simp only [add_spot p3', Option.isSome_none, Bool.false_eq_true, if_false, add_off] at hq
                    exact hq
                obtain ⟨old', q1, q2, q3, q4⟩ := hold'
                by_cases hin : len + k ≤ cap'
                · -- in place
                  have hbd : a'.off + len * zz + new'.length ≤ cs'.size := by
                    rw [hnl]
                    have : (len + k) * zz ≤ cap' * zz := Nat.mul_le_mul_right _ hin
                    rw [Nat.add_mul] at this
                    omega
                  obtain ⟨ds, hds, hsrun⟩ := storeCells_ok X.P el2 fz (a'.add (len * zz)) (add_spot p3' _) new' 0 cs' w (by rw [add_block, p2]; exact hmk) (by rw [add_off]; omega)
                    (fun j j1 j2 => hfo rfl j (by rw [add_off] at j2; omega))
                    (fun q hq => by
                      obtain ⟨j, hj, rfl⟩ := List.mem_iff_getElem.1 hq
                      have hj' : j < new.length := by rw [hnr.1]; exact hj
                      exact one_rel (hnr.2 j new[j] new'[j] (List.getElem?_eq_getElem hj') (List.getElem?_eq_getElem hj)) (List.all_eq_true.1 hzc.1.2 _ (by simp)))
                  have hdsz : ds.size = cs'.size := by
                    have e1 := congrArg List.length hds
                    rw [spl_length (by simp [add_off]; omega)] at e1
                    simpa using e1
                  let L' : Loc := ⟨L.block, a'.off, some (zz, cs'.size), none⟩
                  have hg := Goes.rename hw (m := a.block) (n := n) (L' := L') (p := .cells (old ++ new) el2 (some zz) str) (p' := .cells ds el2 fz)
                    (w' := { w with heap := w.heap.setIfInBounds (a'.add (len * zz)).block (.cells ds el2 fz) }) hH p1 hn rfl (by rw [add_block, p2]) rfl rfl (by
                      have hpos : ∀ j, j < cs'.size → ds[j]? = if a'.off + len * zz ≤ j ∧ j < a'.off + len * zz + new'.length then new'[j - (a'.off + len * zz)]? else cs'[j]? := by
                        intro j hj
                        have e1 : ds[j]? = (spl cs'.toList ((a'.add (len * zz)).off + 0) new')[j]? := by rw [← hds]; simp
                        rw [e1, add_off, Nat.add_zero, spl_get (by simp; omega)]
                        simp
                      simp only [ORel]
                      refine ⟨trivial, by rw [hdsz]; rfl, fun j q hj => ?_, fun j hj => hfo rfl _ ?_, fun _ j hj => hfo rfl j (by rw [← hdsz]; exact hj), hst.1, (fun h => by cases h)⟩
                      · have hl : LRel ρ (old ++ new) (old' ++ new') := q2.append hnr
                        obtain ⟨q', hq', hqr⟩ := hl.get hj
                        refine ⟨q', ?_, hqr.mono (Rn.ext_add hn)⟩
                        have hol' : old'.length = len * zz := by rw [← q2.1]; exact q3
                        have hjl : j < (old' ++ new').length := (List.getElem?_eq_some_iff.1 hq').1
                        simp only [List.length_append] at hjl
                        rw [hpos _ (by simp only [L']; omega)]
                        by_cases hjo : j < len * zz
                        · rw [if_neg (by simp only [L']; omega)]
                          rw [List.getElem?_append_left (by omega)] at hq'
                          rw [← q4 j q' hq', Nat.add_comm]
                        · rw [if_pos (by simp only [L']; omega)]
                          rw [List.getElem?_append_right (by omega)] at hq'
                          rw [← hq']
                          congr 1
                          simp only [L']; omega
                      · simp only [L', List.length_append] at hj ⊢
                        have := hnr.1
                        omega)
                  refine ⟨ρ.add n L', _, _, append_fits ok h0 h1 hu hdu hni hs hlen hin hrn (by simpa using hsrun), ?_, hg, fun m hm => Rn.add_ne hm⟩
                  refine .slice (L := L') (Rn.add_same ..) p2 rfl p3' ?_
                  simp only [SlRel, L']
                  exact ⟨hin, c2, fun _ => by simp⟩
                · exact fresh (some a') cap' old old' (H.put a.block none) str (by omega)
                    (fun w2 hh2 => by unfold Builtin.firstCells; exact q1 w2 hh2) q2 q3 (hw.sub (.erase H a.block)) (.drop hw a.block)
            · cases h
  · cases h

end
end Go.Ev
