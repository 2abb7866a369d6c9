/- The framework: walks of code that keep plain values. -/
import Derived.Test.YtoaajjhcdbbfdaaFwWb
import Derived.ProofKit
set_option linter.unusedSimpArgs false
set_option linter.unnecessarySimpa false
set_option linter.unusedVariables false
namespace Go.Abs
open Go.ChangeShapes Go.WideShapes Go.ChangeAt Go.RowKit

theorem rowAt_le {p : Program} {fits : TypeId → Bool} {d : Nat} {e : TypeId} {count off n : Nat} (h : rowAt p fits d e count off n = true) : off ≤ count * p.cellsOf e := by
  cases d with
  | zero => simp [rowAt] at h
  | succ d =>
    simp only [rowAt] at h
    split at h
    · simp at h
    · rename_i hs
      have hd := Nat.div_add_mod off (p.cellsOf e)
      have hm : off % p.cellsOf e < p.cellsOf e := Nat.mod_lt _ (Nat.pos_of_ne_zero hs)
      rw [Nat.mul_comm] at hd
      simp only [Bool.or_eq_true, Bool.and_eq_true, beq_iff_eq, decide_eq_true_eq] at h
      rcases h with ⟨⟨h1, h2⟩, _⟩ | ⟨h1, _⟩
      · have h3 : off / p.cellsOf e * p.cellsOf e ≤ count * p.cellsOf e := Nat.mul_le_mul_right _ (by omega)
        omega
      · have h3 : (off / p.cellsOf e + 1) * p.cellsOf e ≤ count * p.cellsOf e := Nat.mul_le_mul_right _ h1
        rw [Nat.add_mul] at h3
        omega

theorem liesAt_le {p : Program} {d : Nat} {e u : TypeId} {count off n : Nat} (hu : ∀ m u', p.underlying u ≠ some (.array m u')) (h : liesAt p d e count off u n = true) : off ≤ count * p.cellsOf e := by
  cases d with
  | zero => simp [liesAt] at h
  | succ d =>
    simp only [liesAt, Bool.or_eq_true] at h
    rcases h with h | h
    · exact rowAt_le h
    · cases h

theorem u8_range {n : Int} (h : (Lit.int .u8 n).wf = true) : 0 ≤ n ∧ n ≤ 255 := by
  simp only [Lit.wf, Bool.and_eq_true, decide_eq_true_eq] at h
  have h1 : IntKind.u8.min = 0 := by decide
  have h2 : IntKind.u8.max = 255 := by decide
  omega

theorem law_bytes {H : Type} {enc : TypeId × Value → H} {P : Program} {f : FuncId} {fn : Func} {s : ChangeSpec} {T E R : TypeId} {W : World} {base : Nat} {args : Array Value} {ds gs : List (DataW H)} {before : List MemPlace}
    (hl : laidOutB P = true) (hr : P.readableRec T = true) (hrow : T < P.types.size) (hT : P.underlying T = some (.slice E)) (hE : P.underlying E = some (.int .u8)) (hc : P.cellsOf E = 1) (hR : P.underlying R = some .bool)
    (hp : fn.params = #[T]) (hres : fn.resultTypes = #[R]) (hv : s.vars = []) (hs : ∀ d, s.fn H [d] = { results := [.lit (.bool true)], args := [d] })
    (hm : ∀ code : List Int, (∀ n ∈ code, 0 ≤ n ∧ n ≤ 255) → Meets P f [⟨.slc (.int .u8), 0, code⟩] [⟨.bool, 0, true⟩] [⟨.slc (.int .u8), 0, code⟩])
    (hval0 : ∀ (j : Nat) t v, fn.params[j]? = some t → args[j]? = some v → Value.okWide P W .any base t v) (hW : DataW.Whole enc P fn.params.toList s.vars false W args.toList ds gs before) :
    Calls P f args W fun e W' => ∃ v, e = .returned v ∧ s.post enc P fn false true false false W args v W' := by
  have hW' := hW
  obtain ⟨p, q, hA0, hV, rfl, hz, hn⟩ := hW
  rw [hp] at hA0 hval0
  rw [hv] at hV
  have hA : DataW.TrodAll enc P W 0 (fun _ => true) true [T] args.toList ds p := hA0
  obtain ⟨v0, d0, rfl, rfl, h0⟩ := trodAll_one hA
  obtain ⟨rfl, rfl⟩ := trodVars_none hV
  have hok := hval0 0 T v0 rfl rfl
  obtain ⟨a0, len, cap, rfl⟩ := okWide_slice hT hok
  have h0' := h0
  obtain ⟨fuel, hf⟩ := h0
  -- how the argument lies
  have hargs : ∃ code : List Int, (∀ n ∈ code, 0 ≤ n ∧ n ≤ 255) ∧ HoldArgs (fun _ => none) W [⟨.slc (.int .u8), 0, code⟩] [.slice a0 len cap] := by
    rcases open_ints hT hE hc hf with ⟨hcs, hx⟩ | ⟨a, len', cap', zs, hcs, _, hl', hm', hz', hx, hcell, hwz⟩
    · simp [Value.cells] at hcs
      obtain ⟨rfl, rfl, rfl⟩ := hcs
      exact ⟨[], by simp, rfl, fun i h1 h2 => by
        obtain rfl : i = 0 := by simp at h1; omega
        exact repV_lone rfl ⟨none, 0, rfl, Nat.le_refl _, Nat.zero_le _, .inl ⟨rfl, rfl, rfl⟩⟩⟩
    · simp [Value.cells] at hcs
      obtain ⟨rfl, rfl, rfl⟩ := hcs
      simp only [if_true] at hz'
      have hsp : a.spot = none ∧ ∃ row cells, W.shape? a.block = some (row, cells) ∧ liesAt P P.depth row (cells / P.cellsOf row) a.off E cap = true := by
        simp only [Value.okWide, hT, Cell.okWide, Cell.ok] at hok
        exact hok.2.2.2
      obtain ⟨hs0, row, cells, hsh, hlie⟩ := hsp
      obtain ⟨blk, off, spot⟩ := a
      simp only at hs0 hsh hlie
      subst hs0
      have hcur : ∃ cur e fz, W.heap[blk]? = some (.cells cur e fz) ∧ cur.size = cells ∧ e = row := by
        unfold World.shape? at hsh
        split at hsh
        · rename_i c e fz hh
          simp only [Option.some.injEq, Prod.mk.injEq] at hsh
          exact ⟨c, e, fz, hh, hsh.2, hsh.1⟩
        · simp at hsh
      obtain ⟨cur, e, fz, hcur, hsz, rfl⟩ := hcur
      have hoff : off ≤ cur.size := by
        have h1 := liesAt_le (fun m u' h => by rw [hE] at h; cases h) hlie
        have h2 := Nat.div_mul_le_self cells (P.cellsOf e)
        omega
      have hget : ∀ i, i < zs.length → cur[off + i]? = some (.int .u8 (zs.getD i 0)) := fun i hi => by
        have := hcell i hi
        rw [add_lit] at this
        simpa [World.cell?, hcur] using this
      have hll : (zs.take len).length = len := by simp; omega
      refine ⟨zs.take len, fun n hn => u8_range (hwz n (List.mem_of_mem_take hn)), rfl, fun i h1 h2 => ?_⟩
      obtain rfl : i = 0 := by simp at h1; omega
      refine repV_lone rfl ?_
      simp only [rep, List.getElem_cons_zero]
      refine ⟨_, cap, by rw [hll], by rw [hll]; omega, hm', .inr ⟨blk, off, cur, e, fz, rfl, hcur, ?_, .inl ⟨trivial, trivial⟩, fun j hj => ?_⟩⟩
      · rw [hll]
        simp only [Ty.cells, Nat.mul_one]
        rcases Nat.eq_zero_or_pos len with h | h
        · omega
        · have := (Array.getElem?_eq_some_iff.1 (hget (len - 1) (by omega))).1
          omega
      · rw [hll] at hj
        have h3 := hget j (by omega)
        obtain ⟨h4, h5⟩ := Array.getElem?_eq_some_iff.1 h3
        simp only [Ty.cells, Nat.mul_one, cellsAt, List.getElem_take]
        have h6 : zs.getD j 0 = zs[j]'(by omega) := by simp [List.getD_eq_getElem?_getD, List.getElem?_eq_getElem (show j < zs.length by omega)]
        rw [h6] at h5
        have h7 : List.drop (off + j) cur.toList = cur[off + j] :: List.drop (off + j + 1) cur.toList := by
          rw [List.drop_eq_getElem_cons (by simpa using h4)]
          simp
        rw [h7, h5]
        rfl
  obtain ⟨code, hrange, hargs⟩ := hargs
  have hcall := hm code hrange W (fun _ => none) [.slice a0 len cap] hargs
  refine hcall.mono ?_
  rintro e W' ⟨vs, lab', rfl, hresv, _, hfr, _⟩
  obtain ⟨hlen, hrep⟩ := hresv
  match vs, hlen with
  | [v], _ =>
  have hvt : v = .bool true := by
    have := (hrep 0 (by simp) (by simp)).rep
    simpa [rep, cellsOf, Ty.agg] using this
  subst hvt
  have hsame : ∀ b, b < W.heap.size → W'.heap[b]? = W.heap[b]? := fun b hb => (hfr.old b hb rfl).2
  have hkb : ∀ may, W.keptBut W' may := fun may => ⟨hfr.os, hfr.output, fun i hi => by
    rw [hsame i hi]
    split
    · rename_i c t fr c' t' fr' h1 h2
      rw [h1] at h2
      cases h2
      exact ⟨rfl, rfl, rfl, fun _ _ => rfl⟩
    · rename_i es ck es' ck' h1 h2
      rw [h1] at h2
      cases h2
      exact .inr ⟨rfl, rfl⟩
    · rfl⟩
  have hlt : ∀ x ∈ p, x.block < W.heap.size := fun x hx => hW'.lt x (by simpa using hx)
  have hstay : ∀ sp : Nat → Bool, (∀ x ∈ p, sp x.block = true) → DataW.Trod enc P W' 0 sp true T (.slice a0 len cap) d0 p := fun sp hsp =>
    WideElems.Trod_stays hl hr hrow h0' (fun x hx => by
      have := hsame x.block (hlt x hx)
      cases x with
      | cell b off => simp only [World.sameAt, World.cell?]; simp only [MemPlace.block] at this; rw [this]
      | map b => exact this) hsp
  refine ⟨_, rfl, ?_⟩
  have hsn : s.fn H ([d0] ++ []) = { results := [.lit (.bool true)], args := [d0] } := hs d0
  refine ⟨[d0], [], p ++ [], [], p, [], by simpa using hW', ?_, ?_, ?_, World.keptBut_mono (fun _ h => h) (hkb _), fun h => by cases h⟩
  · rw [hres, hsn]
    exact trodAll_mk1 (shut_bool hR true)
  · rw [hp, hsn]
    exact trodAll_mk1 (hstay _ fun x hx => by simpa using hlt x hx)
  · rw [hv]
    simp only [hsn]
    rfl

end Go.Abs
