/- The framework: walks of code that keep plain values. -/
import Derived.Test.YtoaajjhcdbbfdaaFwL
set_option linter.unusedSimpArgs false
set_option linter.unnecessarySimpa false
set_option linter.unusedVariables false
namespace Go.Abs

/-- What is taken, as elements of one type. -/
def elems (e : Ty) (mc : Nat) : List V → Option (List (den e))
  | [] => some []
  | v :: vs => match okM v.t v.m mc with
    | true => match decEq v.t e with
      | .isTrue h => match elems e mc vs with
        | some xs => some ((h ▸ v.x) :: xs)
        | none => none
      | .isFalse _ => none
    | false => none

theorem elems_get {e : Ty} {mc : Nat} : ∀ {vs : List V} {xs : List (den e)}, elems e mc vs = some xs → xs.length = vs.length ∧ ∀ (lab : Lab) (w : World) (r : Nat) (p : Path) (us : List Value) (j : Nat) (h1 : j < vs.length) (h2 : j < xs.length), rep lab w vs[j].t vs[j].m vs[j].x us r p → rep lab w e mc xs[j] us r p
  | [], xs, h => by simp only [elems, Option.some.injEq] at h; subst h; exact ⟨rfl, by simp⟩
  | v :: vs, xs, h => by
    simp only [elems] at h
    split at h
    case h_2 => simp at h
    rename_i hok
    split at h
    case h_2 => simp at h
    rename_i _ he _
    split at h
    case h_2 => simp at h
    rename_i ys hys
    simp only [Option.some.injEq] at h
    subst h
    obtain ⟨h1, h2⟩ := elems_get hys
    refine ⟨by simp [h1], fun lab w r p us j hj1 hj2 hr => ?_⟩
    cases j with
    | zero =>
      simp only [List.getElem_cons_zero] at hr ⊢
      have := rep_okM hok hr
      subst he
      exact this
    | succ j =>
      simp only [List.getElem_cons_succ] at hr ⊢
      exact h2 lab w r p us j (by simpa using hj1) (by simpa using hj2) hr

theorem fill_seq {sz : Nat} : ∀ (us : List Value) (cells : Array Value) (k : Nat), (∀ u ∈ us, u.cells.size = sz) → (k + us.length) * sz ≤ cells.size →
    ∃ cells', Instr.fill (fun i => some (i * sz, sz)) cells ((List.range' k us.length).zip us) = some cells' ∧ cells'.toList = cells.toList.take (k * sz) ++ (us.map (·.cells.toList)).flatten ++ cells.toList.drop ((k + us.length) * sz)
  | [], cells, k, _, _ => ⟨cells, by simp [Instr.fill], by simp⟩
  | u :: us, cells, k, hu, hs => by
    have h0 := hu u (List.mem_cons_self ..)
    simp only [List.length_cons] at hs
    have hk : k * sz + sz ≤ cells.size := Nat.le_trans (by rw [← Nat.succ_mul]; exact Nat.mul_le_mul_right _ (by omega)) hs
    have hk2 : (k + 1) * sz = k * sz + sz := Nat.succ_mul k sz
    have hk3 : (k + (us.length + 1)) * sz = (k + 1 + us.length) * sz := by congr 1; omega
    have hsp : (splice cells.toList (k * sz) u.cells.toList).length = cells.size := by simp [splice]; omega
    obtain ⟨cells', h1, h2⟩ := fill_seq us (splice cells.toList (k * sz) u.cells.toList).toArray (k + 1) (fun v hv => hu v (List.mem_cons_of_mem _ hv)) (by simp only [List.size_toArray, hsp]; rw [← hk3]; exact hs)
    refine ⟨cells', ?_, ?_⟩
    · simp only [List.length_cons, List.range'_succ, List.zip_cons_cons]
      rw [fill_one rfl h0 hk]
      exact h1
    · rw [h2]
      simp only [List.map_cons, List.flatten_cons, List.length_cons]
      have hl1 : (cells.toList.take (k * sz)).length = k * sz := by simp; omega
      have hl2 : u.cells.toList.length = sz := by simpa using h0
      have e1 : (splice cells.toList (k * sz) u.cells.toList).take ((k + 1) * sz) = cells.toList.take (k * sz) ++ u.cells.toList := by
        simp only [splice]
        rw [List.take_append_of_le_length (by simp only [List.length_append, hl1, hl2]; omega), List.take_of_length_le (by simp only [List.length_append, hl1, hl2]; omega)]
      have e2 : (splice cells.toList (k * sz) u.cells.toList).drop ((k + 1 + us.length) * sz) = cells.toList.drop ((k + (us.length + 1)) * sz) := by
        have hge : (k + 1) * sz ≤ (k + 1 + us.length) * sz := Nat.mul_le_mul_right _ (by omega)
        simp only [splice]
        rw [List.drop_append, List.drop_of_length_le (by simp only [List.length_append, hl1, hl2]; omega), List.nil_append, List.drop_drop]
        congr 1
        simp only [List.length_append, hl1, hl2]
        omega
      simp only [e1, e2, List.append_assoc]

theorem flatten_slice {sz : Nat} : ∀ (uss : List (List Value)) (tl : List Value), (∀ u ∈ uss, u.length = sz) → ∀ i (h : i < uss.length), ((uss.flatten ++ tl).drop (i * sz)).take sz = uss[i]
  | u :: uss, tl, hu, 0, _ => by
    have h0 := hu u (List.mem_cons_self ..)
    simp only [List.flatten_cons, Nat.zero_mul, List.drop_zero, List.append_assoc, List.getElem_cons_zero]
    rw [← h0, List.take_left]
  | u :: uss, tl, hu, i + 1, h => by
    have h0 := hu u (List.mem_cons_self ..)
    have ih := flatten_slice uss tl (fun v hv => hu v (List.mem_cons_of_mem _ hv)) i (by simpa using h)
    simp only [List.flatten_cons, List.getElem_cons_succ, List.append_assoc]
    rw [List.drop_append, List.drop_of_length_le (by rw [h0]; exact Nat.le_mul_of_pos_left _ (by omega)), List.nil_append, h0]
    rw [show (i + 1) * sz - sz = i * sz by rw [Nat.succ_mul]; omega]
    exact ih

theorem flatten_length {sz : Nat} : ∀ (uss : List (List Value)), (∀ u ∈ uss, u.length = sz) → uss.flatten.length = uss.length * sz
  | [], _ => by simp
  | u :: uss, hu => by
    simp only [List.flatten_cons, List.length_append, List.length_cons]
    rw [hu u (List.mem_cons_self ..), flatten_length uss (fun v hv => hu v (List.mem_cons_of_mem _ hv)), Nat.succ_mul]
    omega

structure SlcOK (P : Program) (T : TypeId) (e : Ty) (E : TypeId) (i : TypeInfo) (z : Value) : Prop where
  under : P.underlying T = some (.slice E)
  info : P.info? E = some i
  size : i.size = e.cells
  pos : 0 < e.cells
  bytes : i.bytes ≤ 4096
  zero : i.zero = some z
  zsize : z.cells.size = e.cells
  zcells : zeroOk e = true → z.cells.toList = zeroC e

theorem slcOK {P : Program} {T : TypeId} {e : Ty} (h : TyOK P T (.slc e)) : ∃ E i z, SlcOK P T e E i z := by
  obtain ⟨_, d, hd, h⟩ := h
  simp only at h
  obtain ⟨E, i, z, rfl, h1, h2, h3, h4, h5, h6, h7, h8⟩ := h
  exact ⟨E, i, z, hd, h1, h2, h3, h5, h6, h7, h8⟩

/-- A slice of a new block. -/
theorem rep_newslice {lab : Lab} {w : World} {e : Ty} {m : Nat} {xs : List (den e)} {d n cap : Nat} {cs : Array Value} {E : TypeId} (hl : lab w.heap.size = some (d, [])) (hn : xs.length = n) (hnc : n ≤ cap) (hcap : cap ≤ maxLen) (hs : cs.size = cap * e.cells)
    (h : ∀ i (hi : i < xs.length), rep lab (w.alloc (.cells cs E)) e m xs[i] (cellsAt cs (i * e.cells) e.cells) d [.e i]) : repV lab (w.alloc (.cells cs E)) (.slc e) (m + 1) xs (.slice (some ⟨w.heap.size, 0, none⟩) n cap) d [] := by
  subst hn
  refine repV_lone rfl ?_
  simp only [rep]
  exact ⟨some ⟨w.heap.size, 0, none⟩, cap, rfl, hnc, hcap, .inr ⟨w.heap.size, 0, cs, E, (0, 0), rfl, heap_alloc_new w _, by rw [hs, Nat.zero_add]; exact Nat.mul_le_mul_right _ hnc, .inr ⟨by omega, hl, rfl, rfl, hs⟩, fun i hi => by simpa using h i hi⟩⟩

theorem run_buildSlice {P : Program} {T E : TypeId} {e : Ty} {i : TypeInfo} {z : Value} (hS : SlcOK P T e E i z) {n : Nat} {parts : Array (Nat × Value)} {cs : Array Value} (hn : n * e.cells ≤ 16777216)
    (hfill : Instr.fill (fun i => some (i * e.cells, e.cells)) ((Array.range (n * e.cells)).map ((if n * e.cells = 0 then #[] else z.cells)[· % (if n * e.cells = 0 then #[] else z.cells).size]!)) parts.toList = some cs) (w : World) :
    (Instr.buildSlice T n parts).run P w = .ok (.slice (some ⟨w.heap.size, 0, none⟩) n n) (w.alloc (.cells cs E)) := by
  have h24 : ¬ 16777216 < n * e.cells := by omega
  unfold Instr.buildSlice
  by_cases h0 : n * e.cells = 0
  · simp only [h0, if_true, Array.range_zero', Array.map_empty] at hfill
    simp [run_underlying hS.under, sizeOf, typeInfo, hS.info, hS.size, h0, Array.range_zero', hfill, newRow]
  · simp only [h0, if_false] at hfill
    simp [run_underlying hS.under, sizeOf, typeInfo, hS.info, hS.size, h0, h24, zeroValue, hS.zero, hfill, newRow]

section
variable {P : Program} {c : Ctx} {l : Env} {o : Oper}

theorem Rel.allocOnly {a : Act} {w : World} {lab : Lab} (h : Rel c l a w lab) (ob : Obj) : Rel c l a (w.alloc ob) lab := by
  have := h.change (a' := a) (w' := w.alloc ob) (lab' := lab) [] (by simp) h.defers rfl (fun _ _ _ => rfl) (fun _ _ => rfl) (h.fr.alloc _ fun _ _ h => h) (fun k _ _ => ⟨fun b hb hl => ⟨hl, alloc_old w _ b hb⟩, fun b q hb hl => ⟨by simpa [lessThan] using hl, alloc_old w _ b hb⟩⟩)
  simpa [purgeAll] using this

/-- A slice literal, all its elements given. -/
theorem r_buildSlice {T : TypeId} {n : Nat} {parts : Array (Nat × Operand)} {ovs : List OV} {vs : List V} {up : List (Nat × Option AX)} {e : Ty} {mc : Nat} {xs : List (den e)} (mv : List Nat) (ho : o.op = .buildSlice T n parts) (hv : viewAll l (parts.toList.map (·.2)) = some ovs)
    (ht : takes mv ovs = some (vs, up)) (hT : TyOK P T (.slc e)) (hi : parts.toList.map (·.1) = List.range' 0 n) (hn : (Nat.ble n 4096 && Nat.ble e.cells 4096) = true) (hx : elems e mc vs = some xs) : SR P c l o ⟨rds ovs, some (.val (.slc e) (mc + 1) xs), up⟩ := fun l' hag => by
  have hs := seenAll_of (viewAll_agree hv hag)
  have hn : n * e.cells ≤ 16777216 := by
    simp only [Bool.and_eq_true] at hn
    exact Nat.mul_le_mul (Nat.le_of_ble_eq_true hn.1) (Nat.le_of_ble_eq_true hn.2)
  refine snd_value fun a w lab hR hd => ?_
  obtain ⟨lab1, hR1, hk1, hlen, hv1, hsh1, hkp1⟩ := takes_sound vroot (by unfold vroot; omega) hR hs ht
  obtain ⟨E, i, z, hS⟩ := slcOK hT
  obtain ⟨hxl, hxg⟩ := elems_get hx
  have hpl : parts.size = n := by have := congrArg List.length hi; simpa using this
  let us := parts.toList.map fun q => a.eval q.2
  have husl : us.length = n := by simp [us, hpl]
  have hvl : vs.length = n := by simpa [hpl] using hlen
  have hucells : ∀ j (h : j < us.length), us[j].cells.toList = cellsOf vs[j].t us[j] ∧ us[j].cells.size = e.cells := by
    intro j hj
    have hr := hv1 j (by omega) (by simp [hpl]; omega)
    have he : a.eval (parts.toList.map (·.2))[j] = us[j] := by simp [us]
    rw [he] at hr
    have h1 := repV_cells hr
    refine ⟨h1, ?_⟩
    have h2 := rep_length (hxg lab1 w _ _ _ j (by omega) (by omega) hr.rep)
    rw [← h1] at h2
    simpa using h2
  have husz : ∀ u ∈ us, u.cells.size = e.cells := fun u hu => by
    obtain ⟨j, hj, rfl⟩ := List.getElem_of_mem hu
    exact (hucells j hj).2
  let zs : Array Value := if n * e.cells = 0 then #[] else z.cells
  let c0 : Array Value := (Array.range (n * e.cells)).map (zs[· % zs.size]!)
  obtain ⟨cs, hf1, hf2⟩ := fill_seq us c0 0 husz (by simp [c0, husl])
  have hcs : cs.toList = (us.map (·.cells.toList)).flatten := by
    rw [hf2, husl]
    simp [c0, List.drop_of_length_le]
  have hfl : ∀ u ∈ us.map (·.cells.toList), u.length = e.cells := fun u hu => by
    obtain ⟨v, hv, rfl⟩ := List.mem_map.1 hu
    simpa using husz v hv
  have hsize : cs.size = n * e.cells := by
    have := congrArg List.length hcs
    rw [flatten_length _ hfl] at this
    simpa [husl] using this
  have hrun : (execOp a.eval o).run P w = .ok (.value (.slice (some ⟨w.heap.size, 0, none⟩) n n)) (w.alloc (.cells cs E)) := by
    have hzip : (parts.map fun (i, x) => (i, a.eval x)).toList = (List.range' 0 us.length).zip us := by
      rw [husl, ← hi, Array.toList_map, List.zip_map']
    have hfill : Instr.fill (fun i => some (i * e.cells, e.cells)) c0 (parts.map fun (i, x) => (i, a.eval x)).toList = some cs := by rw [hzip]; exact hf1
    have := run_buildSlice hS hn hfill w
    simp only [execOp, ho, Sem.run_bind, this, Result.andThen_ok]
    rfl
  have hmx : n ≤ maxLen := by
    have : n ≤ n * e.cells := Nat.le_mul_of_pos_right _ hS.pos
    unfold maxLen; omega
  cases hdst : o.dst with
  | none => exact ⟨_, _, lab1, hrun, by simpa [after, Act.put] using hR1.allocOnly _⟩
  | some d =>
    let f := goes ((List.range' 0 n).map fun i => [Step.e i])
    refine ⟨_, _, relab lab1 d f (some w.heap.size), hrun, ?_⟩
    refine fin_val hR1 (hd.lt d hdst) (hd.fix d hdst) (hR1.fr.alloc _ (relab_shr nb_some)) (fun k hk hk2 => relab_keep nb_some (alloc_old w _) (goes_low hk2)) ?_
    refine rep_newslice (by simp [relab]) (by omega) (Nat.le_refl _) hmx hsize fun j hj => ?_
    have hjn : j < n := by omega
    have hr := hv1 j (by omega) (by simp [hpl]; omega)
    have he : a.eval (parts.toList.map (·.2))[j] = us[j] := by simp [us]
    rw [he] at hr
    have hcell : cellsAt cs (j * e.cells) e.cells = cellsOf vs[j].t us[j] := by
      have := flatten_slice (us.map (·.cells.toList)) [] hfl j (by simp; omega)
      rw [List.append_nil, ← hcs] at this
      rw [← (hucells j (by omega)).1]
      simpa [cellsAt] using this
    rw [hcell]
    refine hxg _ _ _ _ _ j (by omega) hj ?_
    have hff : f (vroot + j) = some [.e j] := by
      have := goes_at (ps := (List.range' 0 n).map fun i => [Step.e i]) (j := j) (by simpa using hjn)
      simpa [f] using this
    have := rep_xfer hr.rep (relab_xfer (d := d) (f := f) (nb := some w.heap.size) nb_some (alloc_old w (.cells cs E)) hff)
    simpa [cutTo] using this

/-- make: zeros. -/
theorem r_makeSlice {T : TypeId} {x y : Operand} {k1 k2 : Option Nat} {ik1 ik2 : IntKind} {m1 m2 : Nat} {n : Int} {e : Ty} (ho : o.op = .makeSlice T x y) (hx : view l x = some (.val k1 (.int ik1) m1 n)) (hy : view l y = some (.val k2 (.int ik2) m2 n))
    (hT : TyOK P T (.slc e)) (hz : zeroOk e = true) (h0 : 0 ≤ n) (hn : n ≤ 17179869184) : SR P c l o ⟨(OV.val k1 (.int ik1) m1 n).rd ++ (OV.val k2 (.int ik2) m2 n).rd, some (.val (.slc e) (e.depth + 1) (List.replicate n.toNat (zeroD e))), []⟩ := fun l' hag => by
  have hs1 := seen_of_view (view_agree hx (agree_left hag))
  have hs2 := seen_of_view (view_agree hy (agree_right hag))
  refine snd_value fun a w lab hR hd => ?_
  obtain ⟨E, i, z, hS⟩ := slcOK hT
  have hb : (i.bytes : Int) * n ≤ 281474976710656 := by
    have h1 : (i.bytes : Int) ≤ 4096 := by have := hS.bytes; omega
    have := Int.mul_le_mul h1 hn h0 (by omega)
    omega
  have hrun := run_make (P := P) w T E i z hS.under hS.info hS.zero ik1 ik2 n n h0 (Int.le_refl _) hb (by omega)
  have hex : (execOp a.eval o).run P w = .ok (.value (.slice (some ⟨w.heap.size, 0, none⟩) n.toNat n.toNat)) (w.alloc (.cells (madeCells z.cells (n.toNat * i.size)) E)) := by
    simp only [execOp, ho, seen_int hR hs1, seen_int hR hs2, Sem.run_bind, hrun]; rfl
  cases hdst : o.dst with
  | none => exact ⟨_, _, lab, hex, by simpa [after, applyUpd, Act.put] using hR.allocOnly _⟩
  | some d =>
    refine ⟨_, _, relab lab d (fun _ => none) (some w.heap.size), hex, ?_⟩
    refine fin_val hR (hd.lt d hdst) (hd.fix d hdst) (hR.fr.alloc _ (relab_shr nb_some)) (fun k hk hk2 => relab_keep nb_some (alloc_old w _) rfl) ?_
    refine rep_newslice (by simp [relab]) (by simp) (Nat.le_refl _) (by unfold maxLen; omega) (by rw [size_madeCells, hS.size]) fun j hj => ?_
    simp only [List.getElem_replicate]
    have hjn : j < n.toNat := by simpa using hj
    have hle : j * e.cells + e.cells ≤ n.toNat * e.cells := by rw [← Nat.succ_mul]; exact Nat.mul_le_mul_right _ hjn
    have hc : cellsAt (madeCells z.cells (n.toNat * i.size)) (j * e.cells) e.cells = zeroC e := by
      rw [← hS.zcells hz]
      apply List.ext_getElem?
      intro q
      simp only [cellsAt, List.getElem?_take, List.getElem?_drop, madeCells, hS.size]
      have hp := hS.pos
      split
      · rename_i hq
        have h1 : j * e.cells + q < n.toNat * e.cells := by omega
        have hzq : q < z.cells.size := by rw [hS.zsize]; exact hq
        simp [h1, hS.zsize, Nat.mul_add_mod_self_right, Nat.mod_eq_of_lt hq]
        rw [getElem!_pos z.cells q hzq, getElem?_pos z.cells q hzq]
      · rename_i hq
        symm
        apply List.getElem?_eq_none
        simp [hS.zsize]; omega
    rw [hc]
    exact rep_zero hz

end
end Go.Abs
