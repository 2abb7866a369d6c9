/- The framework: walks of code that keep plain values. -/
import Derived.Test.YtoaajjhcdbbfdaaFwK
set_option linter.unusedSimpArgs false
set_option linter.unnecessarySimpa false
set_option linter.unusedVariables false
namespace Go.Abs

def viewAll (l : Env) : List Operand → Option (List OV)
  | [] => some []
  | o :: os => match view l o with
    | none => none
    | some ov => match viewAll l os with
      | none => none
      | some ovs => some (ov :: ovs)

theorem viewAll_agree {l l' : Env} : ∀ {os : List Operand} {ovs : List OV}, viewAll l os = some ovs → (∀ k ∈ rds ovs, look l' k = look l k) → viewAll l' os = some ovs
  | [], ovs, h, _ => h
  | o :: os, ovs, h, ha => by
    simp only [viewAll] at h ⊢
    split at h
    · simp at h
    · rename_i ov hov
      split at h
      · simp at h
      · rename_i ovs' hovs
        simp only [Option.some.injEq] at h
        subst h
        rw [view_agree hov (agree_left ha), viewAll_agree hovs (agree_right ha)]

theorem seenAll_of : ∀ {l : Env} {os : List Operand} {ovs : List OV}, viewAll l os = some ovs → SeenAll l os ovs
  | l, [], ovs, h => by simp only [viewAll, Option.some.injEq] at h; subst h; trivial
  | l, o :: os, ovs, h => by
    simp only [viewAll] at h
    split at h
    · simp at h
    · rename_i ov hov
      split at h
      · simp at h
      · rename_i ovs' hovs
        simp only [Option.some.injEq] at h
        subst h
        exact ⟨seen_of_view hov, seenAll_of hovs⟩

/-- The fields of a struct, set one after the other. -/
def setAll : (t : Ty) → Nat → List Nat → List V → den t → Option (den t)
  | _, _, [], [], x => some x
  | t, mc, i :: is, v :: vs, x => match okM v.t v.m mc with
    | true => match setF t i x v.t v.x with
      | some x' => setAll t mc is vs x'
      | none => none
    | false => none
  | _, _, _, _, _ => none

theorem fill_one {place : Nat → Option (Nat × Nat)} {cells : Array Value} {i : Nat} {v : Value} {rest : List (Nat × Value)} {off size : Nat} (hp : place i = some (off, size)) (hv : v.cells.size = size) (hf : off + size ≤ cells.size) :
    Instr.fill place cells ((i, v) :: rest) = Instr.fill place (splice cells.toList off v.cells.toList).toArray rest := by
  have h1 : ¬ (v.cells.size ≠ size ∨ off + v.cells.size > cells.size) := by omega
  have h2 : (v.cells.zipIdx.foldl (fun cs (x : Value × Nat) => cs.setIfInBounds (off + x.2) x.1) cells) = (splice cells.toList off v.cells.toList).toArray := by
    apply Array.ext'
    have := foldl_set v.cells.toList cells off 0 (by simp; omega)
    simp only [Nat.add_zero] at this
    rw [← this, ← Array.toList_zipIdx, Array.foldl_toList]
  have h3 : (v.cells.size ≠ size || decide (off + v.cells.size > cells.size)) = false := by simp; omega
  simp only [Instr.fill, hp]
  rw [← h2]
  simp [hv]
  intro h; omega

theorem setF_facts : ∀ {n : Nat} {t tf : Ty} {x x' : den t} {y : den tf}, setF t n x tf y = some x' → fty t n = some tf ∧ ∃ o, foff t n = some o := by
  intro n
  induction n with
  | zero =>
    intro t tf x x' y hs
    cases t with
    | prod a b =>
      simp only [setF] at hs
      split at hs
      · rename_i _ he _; subst he; exact ⟨rfl, 0, rfl⟩
      · simp at hs
    | _ => simp [setF] at hs
  | succ n ih =>
    intro t tf x x' y hs
    cases t with
    | prod a b =>
      simp only [setF] at hs
      split at hs
      · rename_i z hz
        obtain ⟨h1, o, h2⟩ := ih hz
        exact ⟨h1, a.cells + o, by simp only [foff, h2]⟩
      · simp at hs
    | _ => simp [setF] at hs

theorem foff_le : ∀ {n : Nat} {t tf : Ty} {o : Nat}, foff t n = some o → fty t n = some tf → o + tf.cells ≤ t.cells := by
  intro n
  induction n with
  | zero =>
    intro t tf o h1 h2
    cases t with
    | prod a b => simp only [foff, fty, Option.some.injEq] at h1 h2; subst h1; subst h2; simp [Ty.cells]
    | _ => simp [foff] at h1
  | succ n ih =>
    intro t tf o h1 h2
    cases t with
    | prod a b =>
      simp only [foff] at h1
      split at h1
      · rename_i o' ho'
        simp only [Option.some.injEq] at h1
        have := ih ho' h2
        simp only [Ty.cells]; omega
      · simp at h1
    | _ => simp [foff] at h1

theorem setAll_sound {lab : Lab} {w : World} {t : Ty} {mc d : Nat} {pl : List (Nat × Nat)} (hpl : ∀ f o tf, foff t f = some o → fty t f = some tf → pl[f]? = some (o, tf.cells)) :
    ∀ {is : List Nat} {vs : List V} {us : List Value} {x x' : den t} {cells : Array Value}, setAll t mc is vs x = some x' → us.length = vs.length →
      (∀ j (h1 : j < is.length) (h2 : j < vs.length) (h3 : j < us.length), repV lab w vs[j].t vs[j].m vs[j].x us[j] d (fpath is[j])) → rep lab w t mc x cells.toList d [] →
      ∃ cells', Instr.fill (pl.toArray[·]?) cells (is.zip us) = some cells' ∧ rep lab w t mc x' cells'.toList d []
  | [], [], us, x, x', cells, h, _, _, hr => by
    simp only [setAll, Option.some.injEq] at h
    subst h
    exact ⟨cells, by simp [Instr.fill], hr⟩
  | i :: is, v :: vs, [], x, x', cells, _, hl, _, _ => by simp at hl
  | i :: is, v :: vs, u :: us, x, x', cells, h, hl, hv, hr => by
    simp only [setAll] at h
    split at h
    case h_2 => simp at h
    rename_i hok
    split at h
    case h_2 => simp at h
    rename_i x1 hx1
    obtain ⟨hft, off, hoff⟩ := setF_facts hx1
    have hv0 := hv 0 (by simp) (by simp) (by simp)
    simp only [List.getElem_cons_zero] at hv0
    have hc0 := repV_cells hv0
    obtain ⟨hr1, _⟩ := rep_setF (vs := u.cells.toList) hr hx1 hoff (by rw [hc0]; simpa using rep_okM hok hv0.rep)
    have hlen : u.cells.size = v.t.cells := by have := rep_length hv0.rep; rw [← hc0] at this; simpa using this
    have hcl : cells.size = t.cells := by have := rep_length hr; simpa using this
    obtain ⟨cells', h1, h2⟩ := setAll_sound hpl (cells := (splice cells.toList off u.cells.toList).toArray) h (by simpa using hl) (fun j a b c => hv (j + 1) (by simpa using a) (by simpa using b) (by simpa using c)) (by simpa using hr1)
    refine ⟨cells', ?_, h2⟩
    rw [List.zip_cons_cons, fill_one (off := off) (size := v.t.cells) (by simpa using hpl i off v.t hoff hft) hlen (by rw [hcl]; exact foff_le hoff hft)]
    exact h1
  | [], _ :: _, _, _, _, _, h, _, _, _ => by simp [setAll] at h
  | _ :: _, [], _, _, _, _, h, _, _, _ => by simp [setAll] at h

section
variable {P : Program} {c : Ctx} {l : Env} {o : Oper}

/-- Where the j-th taken operand goes. -/
def goes (ps : List Path) (r : Nat) : Option Path := if vroot ≤ r then ps[r - vroot]? else none

theorem goes_low {ps : List Path} {k : Nat} (h : k < 1000000) : goes ps k = none := if_neg (by unfold vroot; omega)
theorem goes_at {ps : List Path} {j : Nat} (h : j < ps.length) : goes ps (vroot + j) = some ps[j] := by simp [goes, h]

def CastV (v0 v : V) : Prop := ∀ lab w u r p, repV lab w v0.t v0.m v0.x u r p → repV lab w v.t v.m v.x u r p
inductive CastAll : List V → List V → Prop where
  | nil : CastAll [] []
  | same {v : V} {vs0 vs : List V} (hs : CastAll vs0 vs) : CastAll (v :: vs0) (v :: vs)
  | cons {v0 v : V} {vs0 vs : List V} (h : CastV v0 v) (hs : CastAll vs0 vs) : CastAll (v0 :: vs0) (v :: vs)

theorem CastAll.get {vs0 vs : List V} (h : CastAll vs0 vs) : vs0.length = vs.length ∧ ∀ j (h0 : j < vs0.length) (h1 : j < vs.length), CastV vs0[j] vs[j] := by
  induction h with
  | nil => exact ⟨rfl, fun j h0 => by simp at h0⟩
  | same hs ih =>
    refine ⟨by simp [ih.1], fun j h0 h1 => ?_⟩
    cases j with
    | zero => exact fun _ _ _ _ _ h => h
    | succ j => simpa using ih.2 j (by simpa using h0) (by simpa using h1)
  | cons h hs ih =>
    refine ⟨by simp [ih.1], fun j h0 h1 => ?_⟩
    cases j with
    | zero => exact h
    | succ j => simpa using ih.2 j (by simpa using h0) (by simpa using h1)

theorem CastAll.refl : ∀ (vs : List V), CastAll vs vs
  | [] => .nil
  | _ :: vs => .same (CastAll.refl vs)

/-- build: a struct's value. -/
theorem r_buildC {T : TypeId} {parts : Array (Nat × Operand)} {ovs : List OV} {vs0 vs : List V} {up : List (Nat × Option AX)} {t : Ty} {mc : Nat} {x : den t} (mv : List Nat) (ho : o.op = .build T parts) (hv : viewAll l (parts.toList.map (·.2)) = some ovs) (ht : takes mv ovs = some (vs0, up)) (hcast : CastAll vs0 vs)
    (hT : TyOK P T t) (hp : ∃ a b, t = .prod a b) (hz : zeroOk t = true) (hx : setAll t mc (parts.toList.map (·.1)) vs (zeroD t) = some x) : SR P c l o ⟨rds ovs, some (.val t mc x), up⟩ := fun l' hag => by
  have hs := seenAll_of (viewAll_agree hv hag)
  refine snd_value fun a w lab hR hd => ?_
  obtain ⟨lab1, hR1, hk1, hlen, hv1, hsh1, hkp1⟩ := takes_sound vroot (by unfold vroot; omega) hR hs ht
  obtain ⟨hcl, hcv⟩ := hcast.get
  obtain ⟨p1, p2, rfl⟩ := hp
  obtain ⟨⟨i, hi, hsz, hzz⟩, dd, hdd, fs, pl, rfl, hpl, hflds⟩ := hT
  obtain ⟨z, hz1, hz2⟩ := hzz hz
  have hpl' : ∀ f o tf, foff (.prod p1 p2) f = some o → fty (.prod p1 p2) f = some tf → pl[f]? = some (o, tf.cells) := fun f o tf h1 h2 => (hflds f o tf h1 h2).1
  -- the run, at whatever labels
  have main : ∀ d, ∃ cells', (execOp a.eval o).run P w = .ok (.value (.agg cells')) w ∧ rep (relab lab1 d (goes ((parts.toList.map (·.1)).map fpath)) none) w (.prod p1 p2) mc x cells'.toList d [] := by
    intro d
    have hvs : ∀ j (h1 : j < (parts.toList.map (·.1)).length) (h2 : j < vs.length) (h3 : j < (parts.toList.map fun q => a.eval q.2).length),
        repV (relab lab1 d (goes ((parts.toList.map (·.1)).map fpath)) none) w vs[j].t vs[j].m vs[j].x (parts.toList.map fun q => a.eval q.2)[j] d (fpath (parts.toList.map (·.1))[j]) := by
      intro j h1 h2 h3
      have hj := hcv j (by omega) h2 _ _ _ _ _ (hv1 j (by omega) (by simpa using h1))
      have := repV_xfer hj (relab_xfer (d := d) (f := goes ((parts.toList.map (·.1)).map fpath)) (nb := none) nb_none (fun _ _ => rfl) (goes_at (by simpa using h1)))
      simpa [cutTo] using this
    obtain ⟨cells', h1, h2⟩ := setAll_sound (lab := relab lab1 d (goes ((parts.toList.map (·.1)).map fpath)) none) (w := w) (d := d) hpl' (us := parts.toList.map fun q => a.eval q.2) (cells := z.cells) hx (by simp [hlen, ← hcl]) hvs (by rw [hz2]; exact rep_zero hz)
    refine ⟨cells', ?_, h2⟩
    have hb : P.built T (parts.map fun (i, x) => (i, a.eval x)).toList = some cells' := by
      have he : (parts.map fun (i, x) => (i, a.eval x)).toList = (parts.toList.map (·.1)).zip (parts.toList.map fun q => a.eval q.2) := by
        rw [Array.toList_map, List.zip_map', ]
      simp only [Program.built, hi, hdd, hz1, hpl]
      rw [he]; exact h1
    simp only [execOp, ho, Sem.run_bind, run_build w T _ cells' hb, Result.andThen_ok]
    rfl
  cases hdst : o.dst with
  | none =>
    obtain ⟨cells', h1, _⟩ := main 0
    exact ⟨_, w, lab1, h1, by simpa [after, Act.put] using hR1⟩
  | some d =>
    obtain ⟨cells', h1, h2⟩ := main d
    refine ⟨_, w, _, h1, fin_val hR1 (hd.lt d hdst) (hd.fix d hdst) (hR1.fr.ghost (relab_shr nb_none)) (fun k hk hk2 => relab_keep nb_none (fun _ _ => rfl) (goes_low hk2)) ⟨fun _ => ⟨_, rfl⟩, by simpa [cellsOf, Ty.agg, Value.cells] using h2⟩⟩


theorem r_build {T : TypeId} {parts : Array (Nat × Operand)} {ovs : List OV} {vs : List V} {up : List (Nat × Option AX)} {t : Ty} {mc : Nat} {x : den t} (mv : List Nat) (ho : o.op = .build T parts) (hv : viewAll l (parts.toList.map (·.2)) = some ovs) (ht : takes mv ovs = some (vs, up))
    (hT : TyOK P T t) (hp : ∃ a b, t = .prod a b) (hz : zeroOk t = true) (hx : setAll t mc (parts.toList.map (·.1)) vs (zeroD t) = some x) : SR P c l o ⟨rds ovs, some (.val t mc x), up⟩ :=
  r_buildC mv ho hv ht (CastAll.refl vs) hT hp hz hx

end
end Go.Abs
