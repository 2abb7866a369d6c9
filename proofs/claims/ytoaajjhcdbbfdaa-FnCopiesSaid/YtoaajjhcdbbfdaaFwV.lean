/- The framework: walks of code that keep plain values. -/
import Derived.Test.YtoaajjhcdbbfdaaFwZ
set_option linter.unusedSimpArgs false
set_option linter.unnecessarySimpa false
set_option linter.unusedVariables false
namespace Go.Abs
section
variable {P : Program} {c : Ctx} {l : Env} {o : Oper}

theorem r_cmpS {op : BinOp} {xt yt : TypeId} {x y : Operand} {kx ky : Option Nat} {mx my : Nat} {a b : List UInt8} {s r : Bool} (ho : o.op = .binOp op xt x y yt)
    (hx : view l x = some (.val kx .str mx a)) (hy : view l y = some (.val ky .str my b)) (hs : strCmp op a b = some s) (hr : s = r) :
    SR P c l o ⟨(OV.val kx .str mx a).rd ++ (OV.val ky .str my b).rd, some (.val .bool 0 r), []⟩ :=
  snd_two hx hy fun act w lab l' hR h1 h2 => by
    refine ⟨.bool r, ?_, fun _ _ => rep_bool⟩
    subst hr
    cases op <;> simp only [strCmp, Option.some.injEq, reduceCtorEq] at hs <;> subst hs <;> simp [execOp, ho, seen_str hR h1, seen_str hR h2, eqGuard, binOp, Op.stringOp] <;> rfl

theorem r_cat {xt yt : TypeId} {x y : Operand} {kx ky : Option Nat} {mx my : Nat} {a b r : List UInt8} (ho : o.op = .binOp .add xt x y yt)
    (hx : view l x = some (.val kx .str mx a)) (hy : view l y = some (.val ky .str my b)) (hlen : a.length + b.length ≤ 17179869184) (hr : a ++ b = r) :
    SR P c l o ⟨(OV.val kx .str mx a).rd ++ (OV.val ky .str my b).rd, some (.val .str 0 r), []⟩ :=
  snd_two hx hy fun act w lab l' hR h1 h2 => by
    refine ⟨.string ⟨r.toArray⟩, ?_, fun _ _ => rep_str⟩
    subst hr
    have h0 : ¬ (((⟨a.toArray⟩ : ByteArray).size + (⟨b.toArray⟩ : ByteArray).size : Nat) : Int) > IntKind.i64.max := by
      have : IntKind.i64.max = 9223372036854775807 := by decide
      rw [this]
      have h4 : (⟨a.toArray⟩ : ByteArray).size = a.length := by simp [ByteArray.size]
      have h5 : (⟨b.toArray⟩ : ByteArray).size = b.length := by simp [ByteArray.size]
      rw [h4, h5]; omega
    have h3 : (⟨a.toArray⟩ : ByteArray) ++ ⟨b.toArray⟩ = ⟨(a ++ b).toArray⟩ := by
      apply ByteArray.ext; simp
    simp only [execOp, ho, seen_str hR h1, seen_str hR h2, eqGuard, binOp, Op.stringOp, if_neg h0, h3]
    rfl

theorem seen_boolv {l' : Env} {a : Act} {w : World} {lab : Lab} {x : Operand} {k : Option Nat} {m : Nat} {b : Bool} (hR : Rel c l' a w lab) (hs : Seen l' x (.val k .bool m b)) : a.eval x = .bool b := seen_bool hR hs

def cmpB : BinOp → Bool → Bool → Option Bool
  | .eql, a, b => some (a == b)
  | .neq, a, b => some (a != b)
  | _, _, _ => none

theorem r_cmpB {op : BinOp} {xt yt : TypeId} {x y : Operand} {kx ky : Option Nat} {mx my : Nat} {a b : Bool} {s r : Bool} (ho : o.op = .binOp op xt x y yt)
    (hx : view l x = some (.val kx .bool mx a)) (hy : view l y = some (.val ky .bool my b)) (hT : TyOK P xt .bool) (hs : cmpB op a b = some s) (hr : s = r) :
    SR P c l o ⟨(OV.val kx .bool mx a).rd ++ (OV.val ky .bool my b).rd, some (.val .bool 0 r), []⟩ :=
  snd_two hx hy fun act w lab l' hR h1 h2 => by
    refine ⟨.bool r, ?_, fun _ _ => rep_bool⟩
    subst hr
    obtain ⟨_, d, hd, rfl⟩ := hT
    have heq : ∀ u v : Bool, (Op.equal xt (.bool u) (.bool v)).run P w = .ok (u == v) w := fun u v => by
      rw [Op.equal, show Op.maxDepth = 9999 + 1 from rfl, Op.equalIn]
      simp [run_underlying hd]
    cases op <;> simp only [cmpB, Option.some.injEq, reduceCtorEq] at hs <;> subst hs
    · simp only [execOp, ho, seen_bool hR h1, seen_bool hR h2, eqGuard, binOp]
      simp [heq]
    · simp only [execOp, ho, seen_bool hR h1, seen_bool hR h2, eqGuard, binOp]
      simp [heq]
      cases a <;> cases b <;> rfl

theorem run_bounds {len cap : Nat} {low high : Option Value} {lo hi : Int} {w : World} (hl : (low = none ∧ lo = 0) ∨ ∃ k, low = some (.int k lo)) (hh : (high = none ∧ hi = len) ∨ ∃ k, high = some (.int k hi))
    (h0 : 0 ≤ lo) (h1 : lo ≤ hi) (h2 : hi ≤ len) (hc : len ≤ cap) : (Instr.sliceBounds true len cap low high none).run P w = .ok (lo.toNat, hi.toNat, cap) w := by
  have e1 : ∀ k, (Instr.sliceBound (.int k hi) cap .sliceAcap).run P w = .ok hi.toNat w := fun k => by
    unfold Instr.sliceBound
    rw [show asIntOf (.int k hi) = pure (k, hi) from rfl, pure_bind]
    show (if 0 ≤ hi ∧ hi ≤ cap then _ else _ : Sem Nat).run P w = _
    rw [if_pos ⟨by omega, by omega⟩]; rfl
  have e2 : ∀ k, (Instr.sliceBound (.int k lo) hi.toNat .sliceB).run P w = .ok lo.toNat w := fun k => by
    unfold Instr.sliceBound
    rw [show asIntOf (.int k lo) = pure (k, lo) from rfl, pure_bind]
    show (if 0 ≤ lo ∧ lo ≤ hi.toNat then _ else _ : Sem Nat).run P w = _
    rw [if_pos ⟨h0, by omega⟩]; rfl
  unfold Instr.sliceBounds
  rcases hl with ⟨rfl, rfl⟩ | ⟨k, rfl⟩ <;> rcases hh with ⟨rfl, rfl⟩ | ⟨k', rfl⟩ <;> simp [e1, e2]
  have := e2 k
  simp only [Int.toNat_natCast] at this
  simp [this]

def optSeen (l : Env) (x : Option Operand) (d n : Int) : Prop := match x with
  | none => n = d
  | some q => ∃ k ik m, view l q = some (.val k (.int ik) m n)
def optRd (l : Env) (x : Option Operand) : List Nat := match x with
  | none => []
  | some q => match view l q with | some ov => ov.rd | none => []

theorem cut_core {T : TypeId} {x : Operand} {lo hi : Option Operand} {k : Option Nat} {e : Ty} {xs ys : List (den e)} {a b : Int} (ho : o.op = .slice T x lo hi none) (hv : view l x = some (.val k (.slc e) 0 xs)) (hlo : optSeen l lo 0 a) (hhi : optSeen l hi xs.length b)
    (hT : TyOK P T (.slc e)) (h : cut xs a b = some ys) : SR P c l o ⟨(OV.val k (.slc e) 0 xs).rd ++ (optRd l lo ++ optRd l hi), some (.val (.slc e) 0 ys), []⟩ := fun l' ha => by
  obtain ⟨⟨h0, h1, h2⟩, rfl⟩ := cut_eq h
  have hs := seen_of_view (view_agree hv (agree_left ha))
  have opt : ∀ (q : Option Operand) (d n : Int), optSeen l q d n → (∀ k ∈ optRd l q, look l' k = look l k) → ∀ (act : Act) w lab, Rel c l' act w lab → (q.map act.eval = none ∧ n = d) ∨ ∃ k, q.map act.eval = some (.int k n) := fun q d n hq hag act w lab hR => by
    cases q with
    | none => exact .inl ⟨rfl, hq⟩
    | some q =>
      obtain ⟨k, ik, m, hq⟩ := hq
      simp only [optRd, hq] at hag
      exact .inr ⟨ik, by simp [seen_int hR (seen_of_view (view_agree hq hag))]⟩
  obtain ⟨E, i, z, hS⟩ := slcOK hT
  refine snd_value fun act w lab hR hd => ?_
  have hl1 := opt lo 0 a hlo (agree_left (agree_right ha)) act w lab hR
  have hh1 := opt hi xs.length b hhi (agree_right (agree_right ha)) act w lab hR
  have hr := (seen_free hR hs rfl 0 []).rep
  simp only [rep, cellsOf, Ty.agg] at hr
  obtain ⟨base, cap, he, hc, hmx, hr⟩ := hr
  simp only [List.cons.injEq, and_true] at he
  have hb := run_bounds (P := P) (w := w) hl1 hh1 h0 h1 h2 hc
  have hrun : (execOp act.eval o).run P w = .ok (.value (.slice (if cap = a.toNat then base else base.map (·.add (a.toNat * e.cells))) (b.toNat - a.toNat) (cap - a.toNat))) w := by
    have hsl : ∀ lv hv, (Instr.sliceBounds true xs.length cap lv hv none).run P w = .ok (a.toNat, b.toNat, cap) w → (Instr.sliceAt T (.slice base xs.length cap) lv hv none).run P w = .ok (.slice (if cap = a.toNat then base else base.map (·.add (a.toNat * e.cells))) (b.toNat - a.toNat) (cap - a.toNat)) w := fun lv hv hb => by
      unfold Instr.sliceAt
      simp only [Sem.run_bind, run_underlying hS.under, Result.andThen_ok]
      unfold Instr.slice
      simp only [Sem.run_bind, run_underlying hS.under, Result.andThen_ok, hb]
      simp [sizeOf, typeInfo, hS.info, hS.size]
    have h3 := hsl _ _ hb
    simp only [execOp, ho, he, Option.map_none, Sem.run_bind, h3]
    rfl
  refine ⟨_, w, lab, hrun, fin_free hR hd fun r p => repV_lone rfl ?_⟩
  have hlen : ((xs.drop a.toNat).take (b - a).toNat).length = b.toNat - a.toNat := by simp; omega
  simp only [rep]
  refine ⟨_, cap - a.toNat, by rw [hlen], by rw [hlen]; omega, by omega, ?_⟩
  rcases hr with ⟨rfl, rfl, rfl⟩ | ⟨g, off, cur, ee, fz, rfl, hg, hsz, hown, hel⟩
  · left; simp
  · right
    have hl : lab g = none := by
      rcases hown with ⟨_, ho⟩ | ⟨h0, _⟩
      · exact ho
      · omega
    have hget : ∀ j (hj : j < ((xs.drop a.toNat).take (b - a).toNat).length), ((xs.drop a.toNat).take (b - a).toNat)[j] = xs[a.toNat + j]'(by rw [hlen] at hj; omega) := fun j hj => by simp
    by_cases hca : cap = a.toNat
    · have hz : b.toNat - a.toNat = 0 := by omega
      have hz2 : ((xs.drop a.toNat).take (b - a).toNat).length * e.cells = 0 := by rw [hlen, hz]; omega
      exact ⟨g, off, cur, ee, fz, by simp [hca], hg, by omega, .inl ⟨trivial, hl⟩, fun j hj => absurd hj (by rw [hlen]; omega)⟩
    · refine ⟨g, off + a.toNat * e.cells, cur, ee, fz, by rw [if_neg hca]; simp [Addr.add], hg, ?_, .inl ⟨trivial, hl⟩, fun j hj => ?_⟩
      · have hz2 : ((xs.drop a.toNat).take (b - a).toNat).length * e.cells = (b.toNat - a.toNat) * e.cells := by rw [hlen]
        have : a.toNat * e.cells + (b.toNat - a.toNat) * e.cells ≤ xs.length * e.cells := by rw [← Nat.add_mul]; exact Nat.mul_le_mul_right _ (by omega)
        omega
      · rw [hget j hj]
        have := hel (a.toNat + j) (by rw [hlen] at hj; omega)
        rw [Nat.add_mul, ← Nat.add_assoc] at this
        exact rep_shared this

theorem r_cut {T : TypeId} {x lo hi : Operand} {k k1 k2 : Option Nat} {i1 i2 : IntKind} {m1 m2 : Nat} {e : Ty} {xs ys : List (den e)} {a b : Int} (ho : o.op = .slice T x (some lo) (some hi) none) (hv : view l x = some (.val k (.slc e) 0 xs)) (hlo : view l lo = some (.val k1 (.int i1) m1 a)) (hhi : view l hi = some (.val k2 (.int i2) m2 b))
    (hT : TyOK P T (.slc e)) (h : cut xs a b = some ys) : SR P c l o ⟨(OV.val k (.slc e) 0 xs).rd ++ ((OV.val k1 (.int i1) m1 a).rd ++ (OV.val k2 (.int i2) m2 b).rd), some (.val (.slc e) 0 ys), []⟩ := by
  have := cut_core (c := c) ho hv ⟨_, _, _, hlo⟩ ⟨_, _, _, hhi⟩ hT h
  simpa only [optRd, hlo, hhi] using this

theorem r_cutL {T : TypeId} {x hi : Operand} {k k2 : Option Nat} {i2 : IntKind} {m2 : Nat} {e : Ty} {xs ys : List (den e)} {b : Int} (ho : o.op = .slice T x none (some hi) none) (hv : view l x = some (.val k (.slc e) 0 xs)) (hhi : view l hi = some (.val k2 (.int i2) m2 b))
    (hT : TyOK P T (.slc e)) (h : cut xs 0 b = some ys) : SR P c l o ⟨(OV.val k (.slc e) 0 xs).rd ++ (OV.val k2 (.int i2) m2 b).rd, some (.val (.slc e) 0 ys), []⟩ := by
  have := cut_core (c := c) (lo := none) ho hv rfl ⟨_, _, _, hhi⟩ hT h
  simpa only [optRd, hhi, List.nil_append] using this

theorem r_cutH {T : TypeId} {x lo : Operand} {k k1 : Option Nat} {i1 : IntKind} {m1 : Nat} {e : Ty} {xs ys : List (den e)} {a : Int} (ho : o.op = .slice T x (some lo) none none) (hv : view l x = some (.val k (.slc e) 0 xs)) (hlo : view l lo = some (.val k1 (.int i1) m1 a))
    (hT : TyOK P T (.slc e)) (h : cut xs a xs.length = some ys) : SR P c l o ⟨(OV.val k (.slc e) 0 xs).rd ++ (OV.val k1 (.int i1) m1 a).rd, some (.val (.slc e) 0 ys), []⟩ := by
  have := cut_core (c := c) (hi := none) ho hv ⟨_, _, _, hlo⟩ rfl hT h
  simpa only [optRd, hlo, List.append_nil] using this

theorem r_cutLH {T : TypeId} {x : Operand} {k : Option Nat} {e : Ty} {xs ys : List (den e)} (ho : o.op = .slice T x none none none) (hv : view l x = some (.val k (.slc e) 0 xs))
    (hT : TyOK P T (.slc e)) (h : cut xs 0 xs.length = some ys) : SR P c l o ⟨(OV.val k (.slc e) 0 xs).rd, some (.val (.slc e) 0 ys), []⟩ := by
  have := cut_core (c := c) (lo := none) (hi := none) ho hv rfl rfl hT h
  simpa only [optRd, List.append_nil] using this

end
end Go.Abs
