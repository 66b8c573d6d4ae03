/- The proof layer, part c: operations that only look, one rule each. -/
import Derived.Test.YtbodmnijpdffaaaDoorVb
namespace Go.V
open Go
section still
variable {C : Cx} {F : Fr} {L : List HL} {o : Oper}
theorem Still.move {x : Operand} {v : Value} (ho : o.op = .move x) (hx : F.ev x = some v) : Still C o F L v :=
  ⟨fun c h => (by rw [ho] at h; cases h), fun a w ok => by simp only [execOp, ho, ok.fr.ev hx]; rfl⟩
theorem Still.assign {x : Operand} {v : Value} (ho : o.op = .assign x) (hx : F.ev x = some v) : Still C o F L v :=
  ⟨fun c h => (by rw [ho] at h; cases h), fun a w ok => by simp only [execOp, ho, ok.fr.ev hx]; rfl⟩
theorem Still.pickT {c x y : Operand} {v : Value} (ho : o.op = .pick c x y) (hc : F.ev c = some (.bool true)) (hx : F.ev x = some v) : Still C o F L v :=
  ⟨fun c h => (by rw [ho] at h; cases h), fun a w ok => by simp only [execOp, ho, ok.fr.ev hc, ok.fr.ev hx]; rfl⟩
theorem Still.pickF {c x y : Operand} {v : Value} (ho : o.op = .pick c x y) (hc : F.ev c = some (.bool false)) (hx : F.ev y = some v) : Still C o F L v :=
  ⟨fun c h => (by rw [ho] at h; cases h), fun a w ok => by simp only [execOp, ho, ok.fr.ev hc, ok.fr.ev hx]; rfl⟩
theorem Still.pick {c x y : Operand} {b : Bool} {v u : Value} (ho : o.op = .pick c x y) (hc : F.ev c = some (.bool b)) (hx : F.ev x = some v) (hy : F.ev y = some u) : Still C o F L (if b then v else u) :=
  ⟨fun c h => (by rw [ho] at h; cases h), fun a w ok => by simp only [execOp, ho, ok.fr.ev hc, ok.fr.ev hx, ok.fr.ev hy]; rfl⟩
/-- The cells from A on hold vs. -/
def Cells (w : World) (A : Addr) (vs : List Value) : Prop := ∀ j v, vs[j]? = some v → w.cell? (A.add j) = some v
theorem Cells.nil (w : World) (A : Addr) : Cells w A [] := fun j v h => by simp at h
theorem add_add (A : Addr) (m n : Nat) : (A.add m).add n = A.add (m + n) := by
  unfold Addr.add
  by_cases h : m = 0
  · subst h; simp
  · by_cases k : n = 0
    · subst k; simp [h]
    · simp [h, k, Nat.add_assoc]
@[simp] theorem add_block (A : Addr) (m : Nat) : (A.add m).block = A.block := by unfold Addr.add; split <;> rfl
theorem add_new (b k n : Nat) : (⟨b, k, none⟩ : Addr).add n = ⟨b, k + n, none⟩ := by unfold Addr.add; split <;> simp_all
theorem Cells.cons {w : World} {A : Addr} {v : Value} {vs : List Value} (h : w.cell? A = some v) (hs : Cells w (A.add 1) vs) : Cells w A (v :: vs) := fun j u hj => by
  cases j with
  | zero => simp at hj; subst hj; simpa [Addr.add] using h
  | succ j => have := hs j u (by simpa using hj); rwa [add_add, Nat.add_comm] at this
theorem load_cells {P : Program} {w : World} {t : TypeId} {A : Addr} {vs : List Value} {n : Nat} (ha : ∀ w, (isAgg t).run P w = .ok true w) (hz : ∀ w, (sizeOf t).run P w = .ok n w) (hn : vs.length = n) (hc : Cells w A vs) :
    (loadVar t A).run P w = .ok (.agg vs.toArray) w := by
  simp only [loadVar, Sem.run_bind, ha, Result.andThen_ok, if_true, hz, ← hn, run_loadCells_list w A vs hc]
  rfl
theorem load_one {P : Program} {w : World} {t : TypeId} {A : Addr} {v : Value} (ha : ∀ w, (isAgg t).run P w = .ok false w) (hc : w.cell? A = some v) : (loadVar t A).run P w = .ok v w := by
  simp [loadVar, ha, hc]
theorem Still.load {t : TypeId} {x : Operand} {A : Addr} {v : Value} (ho : o.op = .load t x) (hx : F.ev x = some (.pointer (some A))) (ha : ∀ w, (isAgg t).run C.P w = .ok false w)
    (hc : ∀ w, Sym C.w0 C.S L w → w.cell? A = some v) : Still C o F L v :=
  ⟨fun c h => (by rw [ho] at h; cases h), fun a w ok => by simp only [execOp, ho, ok.fr.ev hx]; simp [Instr.loadAt, Instr.sureAddr, load_one ha (hc w ok.sym)]⟩
theorem Still.loads {t : TypeId} {x : Operand} {A : Addr} {vs : List Value} {n : Nat} (ho : o.op = .load t x) (hx : F.ev x = some (.pointer (some A))) (ha : ∀ w, (isAgg t).run C.P w = .ok true w) (hz : ∀ w, (sizeOf t).run C.P w = .ok n w)
    (hn : vs.length = n) (hc : ∀ w, Sym C.w0 C.S L w → Cells w A vs) : Still C o F L (.agg vs.toArray) :=
  ⟨fun c h => (by rw [ho] at h; cases h), fun a w ok => by simp only [execOp, ho, ok.fr.ev hx]; simp [Instr.loadAt, Instr.sureAddr, load_cells ha hz hn (hc w ok.sym)]⟩
theorem Still.nilCheck {x : Operand} {A : Addr} (ho : o.op = .nilCheck x) (hx : F.ev x = some (.pointer (some A))) : Still C o F L (.pointer (some A)) :=
  ⟨fun c h => (by rw [ho] at h; cases h), fun a w ok => by simp only [execOp, ho, ok.fr.ev hx]; rfl⟩
theorem Still.nilCheckF {x : Operand} {fn : FuncId} {y z : Array Value} (ho : o.op = .nilCheck x) (hx : F.ev x = some (.func (.func fn) y z)) : Still C o F L (.func (.func fn) y z) :=
  ⟨fun c h => (by rw [ho] at h; cases h), fun a w ok => by simp only [execOp, ho, ok.fr.ev hx]; rfl⟩
theorem Still.fieldAddr {s : TypeId} {x : Operand} {k : Nat} {A : Addr} {fs : Array Field} {f : Field} {n : Nat} (ho : o.op = .fieldAddr s x k) (hx : F.ev x = some (.pointer (some A))) (hs : C.P.underlying s = some (.struct fs)) (hf : fs[k]? = some f)
    (hz : ∀ w, (sizeOf f.type).run C.P w = .ok (n + 1) w) : Still C o F L (.pointer (some (A.add f.offset))) :=
  ⟨fun c h => (by rw [ho] at h; cases h), fun a w ok => by
    simp only [execOp, ho, ok.fr.ev hx]
    simp [Instr.fieldAt, run_underlying hs, hf, Instr.sureAddr, fieldPlace, hz]⟩
theorem Still.indexSlice {t e : TypeId} {x ix : Operand} {A : Addr} {len cap : Nat} {k : IntKind} {i : Int} {n : Nat} (ho : o.op = .indexAddr t x ix) (hx : F.ev x = some (.slice (some A) len cap)) (hi : F.ev ix = some (.int k i))
    (ht : C.P.underlying t = some (.slice e)) (hz : ∀ w, (sizeOf e).run C.P w = .ok n w) (hb : 0 ≤ i ∧ i < len) : Still C o F L (.pointer (some (A.add (i.toNat * n)))) :=
  ⟨fun c h => (by rw [ho] at h; cases h), fun a w ok => by
    simp only [execOp, ho, ok.fr.ev hx, ok.fr.ev hi]
    simp [Instr.indexAt, asIntOf, run_underlying ht, hb, hz]⟩
theorem Still.indexArr {t e : TypeId} {x ix : Operand} {A : Addr} {len : Nat} {k : IntKind} {i : Int} {n : Nat} (ho : o.op = .indexAddr t x ix) (hx : F.ev x = some (.pointer (some A))) (hi : F.ev ix = some (.int k i))
    (ht : C.P.underlying t = some (.array len e)) (hz : ∀ w, (sizeOf e).run C.P w = .ok n w) (hb : 0 ≤ i ∧ i < len) : Still C o F L (.pointer (some (A.add (i.toNat * n)))) :=
  ⟨fun c h => (by rw [ho] at h; cases h), fun a w ok => by
    simp only [execOp, ho, ok.fr.ev hx, ok.fr.ev hi]
    simp [Instr.indexAt, asIntOf, run_underlying ht, Instr.sureAddr, hb, hz]⟩
/-- An element of an array that is a value. -/
theorem Still.index {t e : TypeId} {x ix : Operand} {cs : Array Value} {len : Nat} {k : IntKind} {i : Int} {v : Value} (ho : o.op = .index t x ix) (hx : F.ev x = some (.agg cs)) (hi : F.ev ix = some (.int k i))
    (ht : C.P.underlying t = some (.array len e)) (hz : ∀ w, (sizeOf e).run C.P w = .ok 1 w) (ha : ∀ w, (isAgg e).run C.P w = .ok false w) (hb : 0 ≤ i ∧ i < len) (hv : cs[i.toNat]? = some v) : Still C o F L v :=
  ⟨fun c h => (by rw [ho] at h; cases h), fun a w ok => by
    simp only [execOp, ho, ok.fr.ev hx, ok.fr.ev hi]
    simp [Instr.index, asIntOf, run_underlying ht, hb, hz, part, ha, hv]⟩
/-- A byte of a string. -/
theorem Still.indexStr {t : TypeId} {x ix : Operand} {s : ByteArray} {k : IntKind} {i : Int} {b : UInt8} (ho : o.op = .index t x ix) (hx : F.ev x = some (.string s)) (hi : F.ev ix = some (.int k i))
    (ht : C.P.underlying t = some .string) (hb : 0 ≤ i) (hv : s[i.toNat]? = some b) : Still C o F L (.int .u8 b.toNat) :=
  ⟨fun c h => (by rw [ho] at h; cases h), fun a w ok => by
    simp only [execOp, ho, ok.fr.ev hx, ok.fr.ev hi]
    simp [Instr.index, asIntOf, run_underlying ht, hb, hv]⟩
theorem Still.field1 {s : TypeId} {x : Operand} {k : Nat} {cs : Array Value} {fs : Array Field} {f : Field} {v : Value} (ho : o.op = .field s x k) (hx : F.ev x = some (.agg cs)) (hs : C.P.underlying s = some (.struct fs)) (hf : fs[k]? = some f)
    (ha : ∀ w, (isAgg f.type).run C.P w = .ok false w) (hv : cs[f.offset]? = some v) : Still C o F L v :=
  ⟨fun c h => (by rw [ho] at h; cases h), fun a w ok => by
    simp only [execOp, ho, ok.fr.ev hx]
    simp [Instr.field, run_underlying hs, hf, asAgg, part, ha, hv]⟩
theorem Still.fieldN {s : TypeId} {x : Operand} {k n : Nat} {cs : Array Value} {fs : Array Field} {f : Field} (ho : o.op = .field s x k) (hx : F.ev x = some (.agg cs)) (hs : C.P.underlying s = some (.struct fs)) (hf : fs[k]? = some f)
    (ha : ∀ w, (isAgg f.type).run C.P w = .ok true w) (hz : ∀ w, (sizeOf f.type).run C.P w = .ok n w) : Still C o F L (.agg (cs.extract f.offset (f.offset + n))) :=
  ⟨fun c h => (by rw [ho] at h; cases h), fun a w ok => by
    simp only [execOp, ho, ok.fr.ev hx]
    simp [Instr.field, run_underlying hs, hf, asAgg, part, ha, hz]⟩
theorem Still.extract {x : Operand} {i : Nat} {vs : Array Value} {v : Value} (ho : o.op = .extract x i) (hx : F.ev x = some (.tuple vs)) (hv : vs[i]? = some v) : Still C o F L v :=
  ⟨fun c h => (by rw [ho] at h; cases h), fun a w ok => by
    simp only [execOp, ho, ok.fr.ev hx]
    simp [Instr.extract, hv]⟩
theorem Still.not {t : TypeId} {x : Operand} {b : Bool} (ho : o.op = .unOp .not t x) (hx : F.ev x = some (.bool b)) : Still C o F L (.bool (!b)) :=
  ⟨fun c h => (by rw [ho] at h; cases h), fun a w ok => by
    simp only [execOp, ho, ok.fr.ev hx]
    simp [Op.unary]⟩
/-- The range of a kind of integers. -/
def Fits (k : IntKind) (n : Int) : Prop := k.min ≤ n ∧ n ≤ k.max
theorem Fits.wrap {k : IntKind} {n : Int} (h : Fits k n) : k.wrap n = n := by
  unfold Fits at h
  obtain ⟨h1, h2⟩ := h
  cases k <;> simp only [IntKind.wrap, IntKind.min, IntKind.max, IntKind.bits, IntKind.signed] at h1 h2 ⊢ <;> simp at h1 h2 ⊢ <;> (try split) <;> omega
theorem fits64 {n : Int} (h1 : -9223372036854775808 ≤ n) (h2 : n ≤ 9223372036854775807) : Fits .i64 n := ⟨by simpa [IntKind.min, IntKind.signed, IntKind.bits] using h1, by simpa [IntKind.max, IntKind.signed, IntKind.bits] using h2⟩
theorem fits8 {n : Int} (h1 : 0 ≤ n) (h2 : n ≤ 255) : Fits .u8 n := ⟨by simpa [IntKind.min, IntKind.signed, IntKind.bits] using h1, by simpa [IntKind.max, IntKind.signed, IntKind.bits] using h2⟩
theorem fits32 {n : Int} (h1 : -2147483648 ≤ n) (h2 : n ≤ 2147483647) : Fits .i32 n := ⟨by simpa [IntKind.min, IntKind.signed, IntKind.bits] using h1, by simpa [IntKind.max, IntKind.signed, IntKind.bits] using h2⟩
theorem fitsu64 {n : Int} (h1 : 0 ≤ n) (h2 : n ≤ 18446744073709551615) : Fits .u64 n := ⟨by simpa [IntKind.min, IntKind.signed, IntKind.bits] using h1, by simpa [IntKind.max, IntKind.signed, IntKind.bits] using h2⟩
theorem fitsu32 {n : Int} (h1 : 0 ≤ n) (h2 : n ≤ 4294967295) : Fits .u32 n := ⟨by simpa [IntKind.min, IntKind.signed, IntKind.bits] using h1, by simpa [IntKind.max, IntKind.signed, IntKind.bits] using h2⟩
theorem Still.neg {t : TypeId} {x : Operand} {k : IntKind} {i : Int} (ho : o.op = .unOp .neg t x) (hx : F.ev x = some (.int k i)) (hf : Fits k (-i)) : Still C o F L (.int k (-i)) :=
  ⟨fun c h => (by rw [ho] at h; cases h), fun a w ok => by
    simp only [execOp, ho, ok.fr.ev hx]
    simp [Op.unary, Op.intArith, hf.wrap]⟩
section bin
variable {xt yt : TypeId} {x y : Operand} {k : IntKind} {i j : Int}
theorem Still.add (ho : o.op = .binOp .add xt x y yt) (hx : F.ev x = some (.int k i)) (hy : F.ev y = some (.int k j)) (hf : Fits k (i + j)) : Still C o F L (.int k (i + j)) :=
  ⟨fun c h => (by rw [ho] at h; cases h), fun a w ok => by simp only [execOp, ho, ok.fr.ev hx, ok.fr.ev hy]; simp [eqGuard_add, binOp_add, Op.intArith, hf.wrap]⟩
theorem Still.sub (ho : o.op = .binOp .sub xt x y yt) (hx : F.ev x = some (.int k i)) (hy : F.ev y = some (.int k j)) (hf : Fits k (i - j)) : Still C o F L (.int k (i - j)) :=
  ⟨fun c h => (by rw [ho] at h; cases h), fun a w ok => by simp only [execOp, ho, ok.fr.ev hx, ok.fr.ev hy]; simp [eqGuard_sub, binOp_sub, Op.intArith, hf.wrap]⟩
theorem Still.mul (ho : o.op = .binOp .mul xt x y yt) (hx : F.ev x = some (.int k i)) (hy : F.ev y = some (.int k j)) (hf : Fits k (i * j)) : Still C o F L (.int k (i * j)) :=
  ⟨fun c h => (by rw [ho] at h; cases h), fun a w ok => by simp only [execOp, ho, ok.fr.ev hx, ok.fr.ev hy]; simp [eqGuard_mul, binOp_mul, Op.intArith, hf.wrap]⟩
theorem Still.addW (ho : o.op = .binOp .add xt x y yt) (hx : F.ev x = some (.int k i)) (hy : F.ev y = some (.int k j)) : Still C o F L (.int k (k.wrap (i + j))) :=
  ⟨fun c h => (by rw [ho] at h; cases h), fun a w ok => by simp only [execOp, ho, ok.fr.ev hx, ok.fr.ev hy]; simp [eqGuard_add, binOp_add, Op.intArith]⟩
theorem Still.subW (ho : o.op = .binOp .sub xt x y yt) (hx : F.ev x = some (.int k i)) (hy : F.ev y = some (.int k j)) : Still C o F L (.int k (k.wrap (i - j))) :=
  ⟨fun c h => (by rw [ho] at h; cases h), fun a w ok => by simp only [execOp, ho, ok.fr.ev hx, ok.fr.ev hy]; simp [eqGuard_sub, binOp_sub, Op.intArith]⟩
theorem Still.mulW (ho : o.op = .binOp .mul xt x y yt) (hx : F.ev x = some (.int k i)) (hy : F.ev y = some (.int k j)) : Still C o F L (.int k (k.wrap (i * j))) :=
  ⟨fun c h => (by rw [ho] at h; cases h), fun a w ok => by simp only [execOp, ho, ok.fr.ev hx, ok.fr.ev hy]; simp [eqGuard_mul, binOp_mul, Op.intArith]⟩
/-- Quotient and remainder as Go has them. -/
theorem Still.quo (ho : o.op = .binOp .quo xt x y yt) (hx : F.ev x = some (.int k i)) (hy : F.ev y = some (.int k j)) (hj : j ≠ 0) (hf : Fits k (i.tdiv j)) : Still C o F L (.int k (i.tdiv j)) :=
  ⟨fun c h => (by rw [ho] at h; cases h), fun a w ok => by simp only [execOp, ho, ok.fr.ev hx, ok.fr.ev hy]; simp [eqGuard_quo, binOp_quo, Op.intDiv, hj, hf.wrap]⟩
theorem Still.rem (ho : o.op = .binOp .rem xt x y yt) (hx : F.ev x = some (.int k i)) (hy : F.ev y = some (.int k j)) (hj : j ≠ 0) : Still C o F L (.int k (i.tmod j)) :=
  ⟨fun c h => (by rw [ho] at h; cases h), fun a w ok => by simp only [execOp, ho, ok.fr.ev hx, ok.fr.ev hy]; simp [eqGuard_rem, binOp_rem, Op.intDiv, hj]⟩
theorem Still.quoP (ho : o.op = .binOp .quo xt x y yt) (hx : F.ev x = some (.int k i)) (hy : F.ev y = some (.int k j)) (hi : 0 ≤ i) (hj : 0 < j) (hf : Fits k (i / j)) : Still C o F L (.int k (i / j)) := by
  have e : i.tdiv j = i / j := Int.tdiv_eq_ediv_of_nonneg hi
  rw [← e]; exact Still.quo ho hx hy (by omega) (by rw [e]; exact hf)
theorem Still.remP (ho : o.op = .binOp .rem xt x y yt) (hx : F.ev x = some (.int k i)) (hy : F.ev y = some (.int k j)) (hi : 0 ≤ i) (hj : 0 < j) : Still C o F L (.int k (i % j)) := by
  have e : i.tmod j = i % j := Int.tmod_eq_emod_of_nonneg hi
  rw [← e]; exact Still.rem ho hx hy (by omega)
theorem Still.lss (ho : o.op = .binOp .lss xt x y yt) (hx : F.ev x = some (.int k i)) (hy : F.ev y = some (.int k j)) : Still C o F L (.bool (decide (i < j))) :=
  ⟨fun c h => (by rw [ho] at h; cases h), fun a w ok => by simp only [execOp, ho, ok.fr.ev hx, ok.fr.ev hy]; simp [eqGuard_lss, binOp_lss]⟩
theorem Still.leq (ho : o.op = .binOp .leq xt x y yt) (hx : F.ev x = some (.int k i)) (hy : F.ev y = some (.int k j)) : Still C o F L (.bool (decide (i ≤ j))) :=
  ⟨fun c h => (by rw [ho] at h; cases h), fun a w ok => by simp only [execOp, ho, ok.fr.ev hx, ok.fr.ev hy]; simp [eqGuard_leq, binOp_leq]⟩
theorem Still.gtr (ho : o.op = .binOp .gtr xt x y yt) (hx : F.ev x = some (.int k i)) (hy : F.ev y = some (.int k j)) : Still C o F L (.bool (decide (j < i))) :=
  ⟨fun c h => (by rw [ho] at h; cases h), fun a w ok => by simp only [execOp, ho, ok.fr.ev hx, ok.fr.ev hy]; simp [eqGuard_gtr, binOp_gtr]⟩
theorem Still.geq (ho : o.op = .binOp .geq xt x y yt) (hx : F.ev x = some (.int k i)) (hy : F.ev y = some (.int k j)) : Still C o F L (.bool (decide (j ≤ i))) :=
  ⟨fun c h => (by rw [ho] at h; cases h), fun a w ok => by simp only [execOp, ho, ok.fr.ev hx, ok.fr.ev hy]; simp [eqGuard_geq, binOp_geq]⟩
theorem Still.eql (ho : o.op = .binOp .eql xt x y yt) (hx : F.ev x = some (.int k i)) (hy : F.ev y = some (.int k j)) : Still C o F L (.bool (decide (i = j))) :=
  ⟨fun c h => (by rw [ho] at h; cases h), fun a w ok => by simp only [execOp, ho, ok.fr.ev hx, ok.fr.ev hy]; simp [eqGuard_at_int, binOp_eql]; exact Bool.beq_eq_decide_eq i j⟩
theorem Still.neq (ho : o.op = .binOp .neq xt x y yt) (hx : F.ev x = some (.int k i)) (hy : F.ev y = some (.int k j)) : Still C o F L (.bool (decide (i ≠ j))) :=
  ⟨fun c h => (by rw [ho] at h; cases h), fun a w ok => by simp only [execOp, ho, ok.fr.ev hx, ok.fr.ev hy]; simp [eqGuard_at_int, binOp_neq, bne, Bool.beq_eq_decide_eq i j]⟩
theorem Still.eqlB {b c : Bool} (ho : o.op = .binOp .eql xt x y yt) (hx : F.ev x = some (.bool b)) (hy : F.ev y = some (.bool c)) (ht : C.P.underlying xt = some .bool) : Still C o F L (.bool (b == c)) :=
  ⟨fun c h => (by rw [ho] at h; cases h), fun a w ok => by simp only [execOp, ho, ok.fr.ev hx, ok.fr.ev hy]; simp [eqGuard_at_bool, binOp, Op.equal, Op.maxDepth, run_equalIn_bool' w 9999 xt b c ht]⟩
theorem Still.neqB {b c : Bool} (ho : o.op = .binOp .neq xt x y yt) (hx : F.ev x = some (.bool b)) (hy : F.ev y = some (.bool c)) (ht : C.P.underlying xt = some .bool) : Still C o F L (.bool (!(b == c))) :=
  ⟨fun c h => (by rw [ho] at h; cases h), fun a w ok => by simp only [execOp, ho, ok.fr.ev hx, ok.fr.ev hy]; simp [eqGuard_at_bool, binOp, Op.equal, Op.maxDepth, run_equalIn_bool' w 9999 xt b c ht]⟩
end bin
section builtins
variable {ts : Array TypeId} {x : Operand}
theorem Still.lenSlice {t : TypeId} {p : Option Addr} {n c : Nat} (ho : o.op = .call { callee := .builtin .len, args := #[x], argTypes := #[t] }) (hx : F.ev x = some (.slice p n c)) (ht : C.P.underlying t = some (.slice (C.P.elem t))) : Still C o F L (.int .i64 n) :=
  ⟨fun c h => (by rw [ho] at h; cases h), fun a w ok => by
    obtain ⟨d, op, ty, ps, af, g⟩ := o; subst ho
    rw [BigFrame.execOp_builtin, BigFrame.builtin_len]
    simp [ok.fr.ev hx, run_len_slice w _ _ _ _ _ ht, goInt]⟩
theorem Still.lenStr {t : TypeId} {s : ByteArray} (ho : o.op = .call { callee := .builtin .len, args := #[x], argTypes := #[t] }) (hx : F.ev x = some (.string s)) (ht : C.P.underlying t = some .string) : Still C o F L (.int .i64 s.size) :=
  ⟨fun c h => (by rw [ho] at h; cases h), fun a w ok => by
    obtain ⟨d, op, ty, ps, af, g⟩ := o; subst ho
    rw [BigFrame.execOp_builtin, BigFrame.builtin_len]
    simp [ok.fr.ev hx, Builtin.len_, run_underlying ht, goInt]⟩
end builtins
/-- A value put together: the run is a closed fact. -/
theorem Still.build {t : TypeId} {ps : Array (Nat × Operand)} {vs : Array (Nat × Value)} {v : Value} (ho : o.op = .build t ps) (hv : (ps.toList.map fun p => (p.1, F.ev p.2)) = vs.toList.map fun p => (p.1, some p.2)) (hr : ∀ w, (Instr.build t vs).run C.P w = .ok v w) : Still C o F L v :=
  ⟨fun c h => (by rw [ho] at h; cases h), fun a w ok => by
    have e : (ps.map fun (i, x) => (i, a.eval x)) = vs := by
      apply Array.ext'
      rw [Array.toList_map]
      revert hv
      generalize ps.toList = l
      generalize vs.toList = m
      induction l generalizing m with
      | nil => intro h; cases m <;> simp at h ⊢
      | cons p l ih =>
        intro h
        cases m with
        | nil => simp at h
        | cons q m =>
          simp only [List.map_cons, List.cons.injEq, Prod.mk.injEq] at h ⊢
          obtain ⟨⟨h1, h2⟩, h3⟩ := h
          exact ⟨by rw [h1, ok.fr.ev h2], ih m h3⟩
    simp only [execOp, ho, e]
    simp [hr]⟩
theorem Still.makeFunc {fn : FuncId} {cs : Array Operand} {vs : Array Value} (ho : o.op = .makeFunc (.func fn) #[] cs) (hv : cs.toList.map F.ev = vs.toList.map some) : Still C o F L (.func (.func fn) #[] vs) :=
  ⟨fun c h => (by rw [ho] at h; cases h), fun a w ok => by
    have e : cs.map a.eval = vs := by
      apply Array.ext'
      rw [Array.toList_map]
      revert hv
      generalize cs.toList = l
      generalize vs.toList = m
      induction l generalizing m with
      | nil => intro h; cases m <;> simp at h ⊢
      | cons p l ih =>
        intro h
        cases m with
        | nil => simp at h
        | cons q m =>
          simp only [List.map_cons, List.cons.injEq] at h ⊢
          exact ⟨ok.fr.ev h.1, ih m h.2⟩
    simp only [execOp, ho, e]
    simp [Instr.makeFunc]⟩
/-- Any other operation: its run is given. -/
theorem Still.of_run {v : Value} (hd : ∀ c, o.op ≠ .defer c) (hr : ∀ a w, Ok C F L a w → (execOp a.eval o).run C.P w = .ok (.value v) w) : Still C o F L v := ⟨hd, hr⟩
end still
end Go.V
