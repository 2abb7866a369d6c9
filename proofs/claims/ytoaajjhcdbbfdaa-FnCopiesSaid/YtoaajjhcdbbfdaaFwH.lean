/- The framework: walks of code that keep plain values. -/
import Derived.Test.YtoaajjhcdbbfdaaFwG
set_option linter.unusedSimpArgs false
set_option linter.unnecessarySimpa false
set_option linter.unusedVariables false
namespace Go.Abs

section
variable {P : Program} {c : Ctx} {l : Env} {o : Oper}

theorem rep_int {lab : Lab} {w : World} {k : IntKind} {m : Nat} {n : Int} {r : Nat} {p : Path} : repV lab w (.int k) m n (.int k n) r p := repV_lone rfl rfl
theorem rep_bool {lab : Lab} {w : World} {m : Nat} {b : Bool} {r : Nat} {p : Path} : repV lab w .bool m b (.bool b) r p := repV_lone rfl rfl
theorem rep_str {lab : Lab} {w : World} {m : Nat} {s : List UInt8} {r : Nat} {p : Path} : repV lab w .str m s (.string ⟨s.toArray⟩) r p := repV_lone rfl rfl

/-- Two scalars in, one out. -/
theorem snd_two {x y : Operand} {ox oy : OV} {t : Ty} {z : den t} (hx : view l x = some ox) (hy : view l y = some oy)
    (h : ∀ a w lab, ∀ l', Rel c l' a w lab → Seen l' x ox → Seen l' y oy → ∃ v, (execOp a.eval o).run P w = .ok (.value v) w ∧ ∀ r p, repV lab w t 0 z v r p) :
    SR P c l o ⟨ox.rd ++ oy.rd, some (.val t 0 z), []⟩ := fun l' ha => by
  have hs1 := seen_of_view (view_agree hx (agree_left ha))
  have hs2 := seen_of_view (view_agree hy (agree_right ha))
  refine snd_value fun a w lab hR hd => ?_
  obtain ⟨v, h1, h2⟩ := h a w lab l' hR hs1 hs2
  exact ⟨v, w, lab, h1, fin_free hR hd h2⟩

theorem snd_one {x : Operand} {ox : OV} {t : Ty} {z : den t} (hx : view l x = some ox)
    (h : ∀ a w lab, ∀ l', Rel c l' a w lab → Seen l' x ox → ∃ v, (execOp a.eval o).run P w = .ok (.value v) w ∧ ∀ r p, repV lab w t 0 z v r p) :
    SR P c l o ⟨ox.rd, some (.val t 0 z), []⟩ := fun l' ha => by
  have hs1 := seen_of_view (view_agree hx ha)
  refine snd_value fun a w lab hR hd => ?_
  obtain ⟨v, h1, h2⟩ := h a w lab l' hR hs1
  exact ⟨v, w, lab, h1, fin_free hR hd h2⟩

def arith : BinOp → Int → Int → Option Int
  | .add, a, b => some (a + b)
  | .sub, a, b => some (a - b)
  | .mul, a, b => some (a * b)
  | _, _, _ => none

theorem r_arith {op : BinOp} {xt yt : TypeId} {x y : Operand} {kx ky : Option Nat} {ik : IntKind} {mx my : Nat} {a b s r : Int} (ho : o.op = .binOp op xt x y yt)
    (hx : view l x = some (.val kx (.int ik) mx a)) (hy : view l y = some (.val ky (.int ik) my b)) (hs : arith op a b = some s) (hr : ik.wrap s = r) :
    SR P c l o ⟨(OV.val kx (.int ik) mx a).rd ++ (OV.val ky (.int ik) my b).rd, some (.val (.int ik) 0 r), []⟩ :=
  snd_two hx hy fun act w lab l' hR h1 h2 => by
    refine ⟨.int ik r, ?_, fun _ _ => rep_int⟩
    subst hr
    cases op <;> simp [arith] at hs <;> subst hs <;> simp [execOp, ho, seen_int hR h1, seen_int hR h2, eqGuard, binOp, Op.intArith]

def cmp : BinOp → Int → Int → Option Bool
  | .eql, a, b => some (a == b)
  | .neq, a, b => some (a != b)
  | .lss, a, b => some (decide (a < b))
  | .leq, a, b => some (decide (a ≤ b))
  | .gtr, a, b => some (decide (b < a))
  | .geq, a, b => some (decide (b ≤ a))
  | _, _, _ => none

theorem r_cmp {op : BinOp} {xt yt : TypeId} {x y : Operand} {kx ky : Option Nat} {ik : IntKind} {mx my : Nat} {a b : Int} {s r : Bool} (ho : o.op = .binOp op xt x y yt)
    (hx : view l x = some (.val kx (.int ik) mx a)) (hy : view l y = some (.val ky (.int ik) my b)) (hs : cmp op a b = some s) (hr : s = r) :
    SR P c l o ⟨(OV.val kx (.int ik) mx a).rd ++ (OV.val ky (.int ik) my b).rd, some (.val .bool 0 r), []⟩ :=
  snd_two hx hy fun act w lab l' hR h1 h2 => by
    refine ⟨.bool r, ?_, fun _ _ => rep_bool⟩
    subst hr
    cases op <;> simp [cmp] at hs <;> subst hs <;> simp [execOp, ho, seen_int hR h1, seen_int hR h2, eqGuard, binOp, Op.intCmp]

theorem r_quo {xt yt : TypeId} {x y : Operand} {kx ky : Option Nat} {ik : IntKind} {mx my : Nat} {a b r : Int} (ho : o.op = .binOp .quo xt x y yt)
    (hx : view l x = some (.val kx (.int ik) mx a)) (hy : view l y = some (.val ky (.int ik) my b)) (h0 : b ≠ 0) (hr : ik.wrap (a.tdiv b) = r) :
    SR P c l o ⟨(OV.val kx (.int ik) mx a).rd ++ (OV.val ky (.int ik) my b).rd, some (.val (.int ik) 0 r), []⟩ :=
  snd_two hx hy fun act w lab l' hR h1 h2 => by
    refine ⟨.int ik r, ?_, fun _ _ => rep_int⟩
    subst hr
    simp [execOp, ho, seen_int hR h1, seen_int hR h2, eqGuard, binOp, Op.intDiv, h0]

theorem r_rem {xt yt : TypeId} {x y : Operand} {kx ky : Option Nat} {ik : IntKind} {mx my : Nat} {a b r : Int} (ho : o.op = .binOp .rem xt x y yt)
    (hx : view l x = some (.val kx (.int ik) mx a)) (hy : view l y = some (.val ky (.int ik) my b)) (h0 : b ≠ 0) (hr : a.tmod b = r) :
    SR P c l o ⟨(OV.val kx (.int ik) mx a).rd ++ (OV.val ky (.int ik) my b).rd, some (.val (.int ik) 0 r), []⟩ :=
  snd_two hx hy fun act w lab l' hR h1 h2 => by
    refine ⟨.int ik r, ?_, fun _ _ => rep_int⟩
    subst hr
    simp [execOp, ho, seen_int hR h1, seen_int hR h2, eqGuard, binOp, Op.intDiv, h0]

def bits : BinOp → (k : IntKind) → Int → Int → Option Int
  | .and, k, a, b => some (k.wrap (BitVec.ofInt k.bits a &&& BitVec.ofInt k.bits b).toNat)
  | .or, k, a, b => some (k.wrap (BitVec.ofInt k.bits a ||| BitVec.ofInt k.bits b).toNat)
  | .xor, k, a, b => some (k.wrap (BitVec.ofInt k.bits a ^^^ BitVec.ofInt k.bits b).toNat)
  | .andNot, k, a, b => some (k.wrap (BitVec.ofInt k.bits a &&& ~~~BitVec.ofInt k.bits b).toNat)
  | _, _, _, _ => none

theorem r_bits {op : BinOp} {xt yt : TypeId} {x y : Operand} {kx ky : Option Nat} {ik : IntKind} {mx my : Nat} {a b s r : Int} (ho : o.op = .binOp op xt x y yt)
    (hx : view l x = some (.val kx (.int ik) mx a)) (hy : view l y = some (.val ky (.int ik) my b)) (hs : bits op ik a b = some s) (hr : s = r) :
    SR P c l o ⟨(OV.val kx (.int ik) mx a).rd ++ (OV.val ky (.int ik) my b).rd, some (.val (.int ik) 0 r), []⟩ :=
  snd_two hx hy fun act w lab l' hR h1 h2 => by
    refine ⟨.int ik r, ?_, fun _ _ => rep_int⟩
    subst hr
    cases op <;> simp [bits] at hs <;> subst hs <;> simp [execOp, ho, seen_int hR h1, seen_int hR h2, eqGuard, binOp, Op.intBits]

theorem r_shl {xt yt : TypeId} {x y : Operand} {kx ky : Option Nat} {ik iy : IntKind} {mx my : Nat} {a b r : Int} (ho : o.op = .binOp .shl xt x y yt)
    (hx : view l x = some (.val kx (.int ik) mx a)) (hy : view l y = some (.val ky (.int iy) my b)) (h0 : 0 ≤ b) (hr : ik.wrap (a * 2 ^ (min b.toNat ik.bits)) = r) :
    SR P c l o ⟨(OV.val kx (.int ik) mx a).rd ++ (OV.val ky (.int iy) my b).rd, some (.val (.int ik) 0 r), []⟩ :=
  snd_two hx hy fun act w lab l' hR h1 h2 => by
    refine ⟨.int ik r, ?_, fun _ _ => rep_int⟩
    subst hr
    have : ¬ b < 0 := by omega
    simp [execOp, ho, seen_int hR h1, seen_int hR h2, eqGuard, binOp, Op.shift, this]

theorem r_shr {xt yt : TypeId} {x y : Operand} {kx ky : Option Nat} {ik iy : IntKind} {mx my : Nat} {a b r : Int} (ho : o.op = .binOp .shr xt x y yt)
    (hx : view l x = some (.val kx (.int ik) mx a)) (hy : view l y = some (.val ky (.int iy) my b)) (h0 : 0 ≤ b) (hr : a.fdiv (2 ^ (min b.toNat ik.bits)) = r) :
    SR P c l o ⟨(OV.val kx (.int ik) mx a).rd ++ (OV.val ky (.int iy) my b).rd, some (.val (.int ik) 0 r), []⟩ :=
  snd_two hx hy fun act w lab l' hR h1 h2 => by
    refine ⟨.int ik r, ?_, fun _ _ => rep_int⟩
    subst hr
    have : ¬ b < 0 := by omega
    simp [execOp, ho, seen_int hR h1, seen_int hR h2, eqGuard, binOp, Op.shift, this]

theorem r_not {xt : TypeId} {x : Operand} {kx : Option Nat} {mx : Nat} {b r : Bool} (ho : o.op = .unOp .not xt x) (hx : view l x = some (.val kx .bool mx b)) (hr : (!b) = r) :
    SR P c l o ⟨(OV.val kx .bool mx b).rd, some (.val .bool 0 r), []⟩ :=
  snd_one hx fun act w lab l' hR h1 => ⟨.bool r, by subst hr; simp [execOp, ho, seen_bool hR h1, Op.unary], fun _ _ => rep_bool⟩

theorem r_neg {xt : TypeId} {x : Operand} {kx : Option Nat} {ik : IntKind} {mx : Nat} {a r : Int} (ho : o.op = .unOp .neg xt x) (hx : view l x = some (.val kx (.int ik) mx a)) (hr : ik.wrap (0 - a) = r) :
    SR P c l o ⟨(OV.val kx (.int ik) mx a).rd, some (.val (.int ik) 0 r), []⟩ :=
  snd_one hx fun act w lab l' hR h1 => ⟨.int ik r, by subst hr; simp [execOp, ho, seen_int hR h1, Op.unary, Op.intArith], fun _ _ => rep_int⟩

theorem r_conv {S T : TypeId} {x : Operand} {kx : Option Nat} {ik ik' : IntKind} {mx : Nat} {a r : Int} (ho : o.op = .convert S T x) (hx : view l x = some (.val kx (.int ik) mx a)) (hS : TyOK P S (.int ik)) (hT : TyOK P T (.int ik'))
    (hr : ik'.wrap a = r) : SR P c l o ⟨(OV.val kx (.int ik) mx a).rd, some (.val (.int ik') 0 r), []⟩ :=
  snd_one hx fun act w lab l' hR h1 => by
    obtain ⟨_, d1, hd1, rfl⟩ := hS
    obtain ⟨_, d2, hd2, rfl⟩ := hT
    exact ⟨.int ik' r, by subst hr; simp [execOp, ho, seen_int hR h1, convert, run_underlying hd1, run_underlying hd2, Conv.intToInt], fun _ _ => rep_int⟩

/-- pick, its condition known. -/
theorem r_pick_true {q a b : Operand} {kq ka : Option Nat} {mq ma : Nat} {t : Ty} {x : den t} (ho : o.op = .pick q a b) (hq : view l q = some (.val kq .bool mq true)) (ha : view l a = some (.val ka t ma x)) (hf : free t ma = true) :
    SR P c l o ⟨(OV.val kq .bool mq true).rd ++ (OV.val ka t ma x).rd, some (.val t 0 x), []⟩ :=
  snd_two hq ha fun act w lab l' hR h1 h2 => ⟨act.eval a, by simp [execOp, ho, seen_bool hR h1, asBool], seen_free hR h2 hf⟩

theorem r_pick_false {q a b : Operand} {kq kb : Option Nat} {mq mb : Nat} {t : Ty} {x : den t} (ho : o.op = .pick q a b) (hq : view l q = some (.val kq .bool mq false)) (hb : view l b = some (.val kb t mb x)) (hf : free t mb = true) :
    SR P c l o ⟨(OV.val kq .bool mq false).rd ++ (OV.val kb t mb x).rd, some (.val t 0 x), []⟩ :=
  snd_two hq hb fun act w lab l' hR h1 h2 => ⟨act.eval b, by simp [execOp, ho, seen_bool hR h1, asBool], seen_free hR h2 hf⟩

theorem run_len_slice {T ty : TypeId} {e : Ty} (h : TyOK P T (.slc e)) {base : Option Addr} {n cap : Nat} (w : World) : (Builtin.len_ #[T] ty #[.slice base n cap]).run P w = .ok (.int .i64 n) w := by
  obtain ⟨E, i, hd, _⟩ := slc_elem h
  simp [Builtin.len_, run_underlying hd, goInt]

theorem slc_header {lab : Lab} {w : World} {e : Ty} {m : Nat} {xs : List (den e)} {us : List Value} {r : Nat} {p : Path} (h : rep lab w (.slc e) m xs us r p) : ∃ base cap, us = [.slice base xs.length cap] ∧ xs.length ≤ cap ∧ cap ≤ maxLen := by
  simp only [rep] at h
  obtain ⟨base, cap, h1, h2, h3, _⟩ := h
  exact ⟨base, cap, h1, h2, h3⟩

theorem exec_len {x : Operand} {T : TypeId} {v : Value} {act : Act} {w : World} (ho : o.op = .call { callee := .builtin .len, args := #[x], argTypes := #[T] }) (h : (Builtin.len_ #[T] o.type #[act.eval x]).run P w = .ok v w) :
    (execOp act.eval o).run P w = .ok (.value v) w := by
  simp [execOp, ho, resolve, invoke, builtin, h]

theorem r_len {x : Operand} {T : TypeId} {k : Option Nat} {e : Ty} {xs : List (den e)} {n : Int} (ho : o.op = .call { callee := .builtin .len, args := #[x], argTypes := #[T] })
    (hx : view l x = some (.val k (.slc e) 0 xs)) (hT : TyOK P T (.slc e)) (hn : (xs.length : Int) = n) : SR P c l o ⟨(OV.val k (.slc e) 0 xs).rd, some (.val (.int .i64) 0 n), []⟩ :=
  snd_one hx fun act w lab l' hR h1 => by
    have hr := (seen_free hR h1 rfl 0 []).rep
    simp only [cellsOf, Ty.agg] at hr
    obtain ⟨base, cap, he, _⟩ := slc_header hr
    simp only [List.cons.injEq, and_true] at he
    exact ⟨.int .i64 n, exec_len ho (by subst hn; rw [he]; exact run_len_slice hT w), fun _ _ => rep_int⟩

theorem r_len_own {x : Operand} {T : TypeId} {ov : OV} {g : Tgt} {e : Ty} {xs : List (den e)} {n : Int} (ho : o.op = .call { callee := .builtin .len, args := #[x], argTypes := #[T] })
    (hx : view l x = some ov) (hg : owner ov = some g) (hs : sub g.p g.t g.x = some ⟨.slc e, xs⟩) (hT : TyOK P T (.slc e)) (hn : (xs.length : Int) = n) : SR P c l o ⟨ov.rd, some (.val (.int .i64) 0 n), []⟩ :=
  snd_one hx fun act w lab l' hR h1 => by
    obtain ⟨t1, us1, A, u, hh⟩ := owner_own hR h1 hg
    obtain ⟨rfl, hr⟩ := own_sub hh hs
    obtain ⟨base, cap, he, _⟩ := slc_header hr
    subst he
    exact ⟨.int .i64 n, exec_len ho (by subst hn; rw [hh.val]; simp only [mkV, Ty.agg, List.headD_cons]; exact run_len_slice hT w), fun _ _ => rep_int⟩

theorem r_len_str {x : Operand} {T : TypeId} {k : Option Nat} {m : Nat} {s : List UInt8} {n : Int} (ho : o.op = .call { callee := .builtin .len, args := #[x], argTypes := #[T] })
    (hx : view l x = some (.val k .str m s)) (hT : TyOK P T .str) (hn : (s.length : Int) = n) : SR P c l o ⟨(OV.val k .str m s).rd, some (.val (.int .i64) 0 n), []⟩ :=
  snd_one hx fun act w lab l' hR h1 => by
    obtain ⟨_, d, hd, rfl⟩ := hT
    exact ⟨.int .i64 n, exec_len ho (by subst hn; rw [seen_str hR h1]; simp [Builtin.len_, run_underlying hd, goInt]; rfl), fun _ _ => rep_int⟩

theorem r_index_str {x i : Operand} {T : TypeId} {k ki : Option Nat} {ik : IntKind} {m mi : Nat} {s : List UInt8} {n : Int} {b : UInt8} {r : Int} (ho : o.op = .index T x i)
    (hx : view l x = some (.val k .str m s)) (hi : view l i = some (.val ki (.int ik) mi n)) (hT : TyOK P T .str) (h0 : 0 ≤ n) (hb : s[n.toNat]? = some b) (hr : (b.toNat : Int) = r) :
    SR P c l o ⟨(OV.val k .str m s).rd ++ (OV.val ki (.int ik) mi n).rd, some (.val (.int .u8) 0 r), []⟩ :=
  snd_two hx hi fun act w lab l' hR h1 h2 => by
    obtain ⟨_, d, hd, rfl⟩ := hT
    refine ⟨.int .u8 r, ?_, fun _ _ => rep_int⟩
    subst hr
    obtain ⟨hlt, rfl⟩ := List.getElem?_eq_some_iff.1 hb
    have hg : (⟨s.toArray⟩ : ByteArray)[n.toNat]? = some s[n.toNat] := by
      have : n.toNat < (⟨s.toArray⟩ : ByteArray).size := by simpa [ByteArray.size] using hlt
      rw [getElem?_pos (⟨s.toArray⟩ : ByteArray) n.toNat this]
      rfl
    simp [execOp, ho, seen_str hR h1, seen_int hR h2, Instr.index, asIntOf, run_underlying hd, h0, hg]

def strCmp : BinOp → List UInt8 → List UInt8 → Option Bool
  | .eql, a, b => some (a == b)
  | .neq, a, b => some (!(a == b))
  | .lss, a, b => some (Op.bytesLess a b)
  | .geq, a, b => some (!(Op.bytesLess a b))
  | .leq, a, b => some (Op.bytesLess a b || a == b)
  | .gtr, a, b => some (!(Op.bytesLess a b || a == b))
  | _, _, _ => none

theorem toList_mk (s : List UInt8) : (⟨s.toArray⟩ : ByteArray).toList = s := by
  have h : ∀ (b : ByteArray), b.toList = b.data.toList := fun b => by simp [ByteArray.toList_eq]
  simp [h]

end
end Go.Abs
