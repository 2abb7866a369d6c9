/- The framework: walks of code that keep plain values. -/
import Derived.Test.YtoaajjhcdbbfdaaFwR
set_option linter.unusedSimpArgs false
set_option linter.unnecessarySimpa false
set_option linter.unusedVariables false
namespace Go.Abs

def stInfo (P : Program) (T : TypeId) : Option (List (Nat × Nat)) :=
  match P.underlying T with
  | some (.struct fs) => fs.toList.mapM (fun f => (P.info? f.type).map fun i => (f.offset, i.size))
  | _ => none

def layOK : Ty → List (Nat × Nat) → Nat → Bool
  | .prod a b, (o, s) :: pl, off => Nat.beq o off && Nat.beq s a.cells && Nat.blt 0 s && layOK b pl (off + a.cells)
  | .unit, [], _ => true
  | _, _, _ => false

theorem layOK_spec : ∀ {f : Nat} {t : Ty} {pl : List (Nat × Nat)} {off o : Nat} {tf : Ty}, layOK t pl off = true → foff t f = some o → fty t f = some tf → pl[f]? = some (off + o, tf.cells) ∧ 0 < tf.cells := by
  intro f
  induction f with
  | zero =>
    intro t pl off o tf h ho ht
    cases t with
    | prod a b =>
      cases pl with
      | nil => simp [layOK] at h
      | cons q pl =>
        obtain ⟨qo, qs⟩ := q
        simp only [layOK, Bool.and_eq_true, Nat.blt_eq] at h
        simp only [foff, fty, Option.some.injEq] at ho ht
        subst ho; subst ht
        have h1 := Nat.eq_of_beq_eq_true h.1.1.1
        have h2 := Nat.eq_of_beq_eq_true h.1.1.2
        subst h1; subst h2
        exact ⟨rfl, h.1.2⟩
    | _ => simp [foff] at ho
  | succ f ih =>
    intro t pl off o tf h ho ht
    cases t with
    | prod a b =>
      cases pl with
      | nil => simp [layOK] at h
      | cons q pl =>
        obtain ⟨qo, qs⟩ := q
        simp only [layOK, Bool.and_eq_true, Nat.blt_eq] at h
        simp only [foff] at ho
        split at ho
        · rename_i o' ho'
          simp only [Option.some.injEq] at ho
          subst ho
          obtain ⟨h1, h2⟩ := ih h.2 ho' ht
          exact ⟨by simpa [Nat.add_assoc] using h1, h2⟩
        · simp at ho
    | _ => simp [foff] at ho

theorem mapM_get {P : Program} : ∀ {fs : List Field} {pl : List (Nat × Nat)}, fs.mapM (fun f => (P.info? f.type).map fun i => (f.offset, i.size)) = some pl → ∀ (f o s : Nat), pl[f]? = some (o, s) → ∃ (fd : Field) (i : TypeInfo), fs[f]? = some fd ∧ fd.offset = o ∧ P.info? fd.type = some i ∧ i.size = s
  | [], pl, h, f, o, s, hf => by simp at h; subst h; simp at hf
  | x :: fs, pl, h, f, o, s, hf => by
    simp only [List.mapM_cons, Option.bind_eq_bind, Option.pure_def] at h
    cases hi : P.info? x.type with
    | none => simp [hi] at h
    | some i =>
      cases hr : fs.mapM (fun f => (P.info? f.type).map fun i => (f.offset, i.size)) with
      | none => simp [hi, hr] at h
      | some rest =>
        simp [hi, hr] at h
        subst h
        cases f with
        | zero => simp at hf; exact ⟨x, i, rfl, hf.1, hi, hf.2⟩
        | succ f => simpa using mapM_get hr f o s (by simpa using hf)

section
variable {P : Program} {T : TypeId}

theorem info_of {s : Nat} {z : Option Value} (h : (P.info? T).map (fun i => (i.size, i.zero)) = some (s, z)) : ∃ i, P.info? T = some i ∧ i.size = s ∧ i.zero = z := by
  cases hi : P.info? T with
  | none => simp [hi] at h
  | some i => simp [hi] at h; exact ⟨i, rfl, h.1, h.2⟩

theorem tyOK_int {k : IntKind} (h : (P.info? T).map (fun i => (i.size, i.zero)) = some (1, some (.int k 0))) (hu : P.underlying T = some (.int k)) : TyOK P T (.int k) := by
  obtain ⟨i, hi, h1, h2⟩ := info_of h
  exact ⟨⟨i, hi, h1, fun _ => ⟨_, h2, rfl⟩⟩, _, hu, rfl⟩

theorem tyOK_bool (h : (P.info? T).map (fun i => (i.size, i.zero)) = some (1, some (.bool false))) (hu : P.underlying T = some .bool) : TyOK P T .bool := by
  obtain ⟨i, hi, h1, h2⟩ := info_of h
  exact ⟨⟨i, hi, h1, fun _ => ⟨_, h2, rfl⟩⟩, _, hu, rfl⟩

theorem tyOK_str (h : (P.info? T).map (fun i => (i.size, i.zero)) = some (1, some (.string ⟨#[]⟩))) (hu : P.underlying T = some .string) : TyOK P T .str := by
  obtain ⟨i, hi, h1, h2⟩ := info_of h
  exact ⟨⟨i, hi, h1, fun _ => ⟨_, h2, rfl⟩⟩, _, hu, rfl⟩

theorem tyOK_slc {E : TypeId} {e : Ty} {z : Value} {by_ : Nat} (h : (P.info? T).map (fun i => (i.size, i.zero)) = some (1, some (.slice none 0 0))) (hu : P.underlying T = some (.slice E))
    (he : (P.info? E).map (fun i => (i.size, i.zero, i.bytes)) = some (e.cells, some z, by_)) (hb : (Nat.blt 0 by_ && Nat.ble by_ 4096 && Nat.blt 0 e.cells) = true) (hs : z.cells.size = e.cells) (hz : zeroOk e = true → z.cells.toList = zeroC e) : TyOK P T (.slc e) := by
  obtain ⟨i, hi, h1, h2⟩ := info_of h
  simp only [Bool.and_eq_true, Nat.blt_eq] at hb
  refine ⟨⟨i, hi, h1, fun _ => ⟨_, h2, rfl⟩⟩, _, hu, ?_⟩
  cases hie : P.info? E with
  | none => simp [hie] at he
  | some j =>
    simp [hie] at he
    exact ⟨E, j, z, rfl, hie, he.1, hb.2, by omega, by have := Nat.le_of_ble_eq_true hb.1.2; omega, he.2.1, hs, hz⟩

theorem tyOK_struct {a b : Ty} {cs : Array Value} {pl : List (Nat × Nat)} (h : (P.info? T).map (fun i => (i.size, i.zero)) = some ((Ty.prod a b).cells, some (.agg cs))) (hz : zeroOk (.prod a b) = true → cs.toList = zeroC (.prod a b)) (hs : stInfo P T = some pl) (hl : layOK (.prod a b) pl 0 = true) :
    TyOK P T (.prod a b) := by
  obtain ⟨i, hi, h1, h2⟩ := info_of h
  unfold stInfo at hs
  split at hs
  · rename_i fs hu
    refine ⟨⟨i, hi, h1, fun hzo => ⟨_, h2, hz hzo⟩⟩, _, hu, fs, pl, rfl, hs, fun f o tf ho ht => ?_⟩
    obtain ⟨h3, h4⟩ := layOK_spec hl ho ht
    rw [Nat.zero_add] at h3
    obtain ⟨fd, j, h5, h6, h7, h8⟩ := mapM_get hs f o _ h3
    exact ⟨h3, fd, j, by simpa using h5, h6, h7, h8, h4⟩
  · simp at hs

theorem tyOK_ptr {E : TypeId} {t : Ty} (h : (P.info? T).map (fun i => (i.size, i.zero)) = some (1, some (.pointer none))) (hu : P.underlying T = some (.pointer E)) : TyOK P T (.ptr t) := by
  obtain ⟨i, hi, h1, h2⟩ := info_of h
  exact ⟨⟨i, hi, h1, fun hz => by simp [zeroOk] at hz⟩, _, hu, E, rfl⟩

end
end Go.Abs
