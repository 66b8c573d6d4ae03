/- The proof layer, part d: operations that make or write memory; calls. -/
import Derived.Test.YtbodmnijpdffaaaDoorVc
namespace Go.V
open Go
section mem
variable {C : Cx} {F : Fr} {L : List HL} {o : Oper}
/-! ### New blocks -/
theorem wpIn_value {a : Act} {w w' : World} {next : Act → World → Prop} {Q : Exit → Act → World → Prop} {v : Value} (hd : ∀ c, o.op ≠ .defer c) (hr : (execOp a.eval o).run C.P w = .ok (.value v) w') (h : next (a.put o.dst v) w') : o.wpIn (FW C.r) 0 C.P a w next Q := by
  refine ⟨fun _ _ => trivial, ?_⟩
  rw [Oper.semAt_eq _ _ _ hd, hr]
  exact h
theorem wpIn_skip' {a : Act} {w w' : World} {next : Act → World → Prop} {Q : Exit → Act → World → Prop} (hd : ∀ c, o.op ≠ .defer c) (hr : (execOp a.eval o).run C.P w = .ok .skip w') (h : next (a.put o.dst undef) w') : o.wpIn (FW C.r) 0 C.P a w next Q := by
  refine ⟨fun _ _ => trivial, ?_⟩
  rw [Oper.semAt_eq _ _ _ hd, hr]
  exact h
/-- A new block: the result is told by its number. -/
theorem grows_new {ob : Obj} {V : Nat → Value} (hd : ∀ c, o.op ≠ .defer c) (hr : ∀ a w, Ok C F L a w → (execOp a.eval o).run C.P w = .ok (.value (V w.heap.size)) (w.alloc ob)) : Grows C o F L (fun _ : Nat => True) V (fun b => [HL.obj b ob]) :=
  fun a w ok _ _ h => wpIn_value hd (hr a w ok) (h w.heap.size _ trivial (Old.alloc Nil w ob) (ok.sym.alloc ob))
theorem Grows.alloc {t : TypeId} {z : Value} (ho : o.op = .alloc t) (hz : ∀ w, (zeroValue t).run C.P w = .ok z w) : Grows C o F L (fun _ : Nat => True) (fun b => .pointer (some ⟨b, 0, none⟩)) (fun b => [HL.obj b (.cells z.cells t (0, 0))]) :=
  grows_new (fun c h => (by rw [ho] at h; cases h)) fun a w ok => by simp [execOp, ho, Instr.alloc, hz, newVar, newRow]
theorem Grows.box {t : TypeId} {x : Operand} {v : Value} (ho : o.op = .box t x) (hx : F.ev x = some v) : Grows C o F L (fun _ : Nat => True) (fun b => .pointer (some ⟨b, 0, none⟩)) (fun b => [HL.obj b (.cells v.cells t (0, 0))]) :=
  grows_new (fun c h => (by rw [ho] at h; cases h)) fun a w ok => by simp [execOp, ho, ok.fr.ev hx, Instr.box, newVar, newRow]
theorem Grows.makeMap {t : TypeId} (ho : o.op = .makeMap t none) : Grows C o F L (fun _ : Nat => True) (fun b => .map (some b)) (fun b => [HL.obj b (.map #[] 0)]) :=
  grows_new (fun c h => (by rw [ho] at h; cases h)) fun a w ok => by simp [execOp, ho, Instr.makeMap]
theorem parts_eq {a : Act} {w : World} (ok : Ok C F L a w) {ps : Array (Nat × Operand)} {vs : Array (Nat × Value)} (hv : (ps.toList.map fun p => (p.1, F.ev p.2)) = vs.toList.map fun p => (p.1, some p.2)) : (ps.map fun (i, x) => (i, a.eval x)) = vs := by
  apply Array.ext'
  rw [Array.toList_map]
  revert hv
  generalize ps.toList = l
  generalize vs.toList = m
  induction l generalizing m with
  | nil => intro h; cases m <;> simp at h ⊢
  | cons p l ih =>
    intro h
    cases m with
    | nil => simp at h
    | cons q m =>
      simp only [List.map_cons, List.cons.injEq, Prod.mk.injEq] at h ⊢
      obtain ⟨⟨h1, h2⟩, h3⟩ := h
      exact ⟨by rw [h1, ok.fr.ev h2], ih m h3⟩
/-- '[]T{..}' written out: the cells are a closed fact. -/
theorem Grows.buildSlice {t e : TypeId} {n size : Nat} {ps : Array (Nat × Operand)} {vs : Array (Nat × Value)} {z : Value} {cells : Array Value} (ho : o.op = .buildSlice t n ps) (hv : (ps.toList.map fun p => (p.1, F.ev p.2)) = vs.toList.map fun p => (p.1, some p.2))
    (ht : C.P.underlying t = some (.slice e)) (hz : ∀ w, (sizeOf e).run C.P w = .ok size w) (hzv : ∀ w, (zeroValue e).run C.P w = .ok z w) (hsmall : n * size ≤ 16777216)
    (hf : Instr.fill (fun i => some (i * size, size)) ((Array.range (n * size)).map ((if n * size = 0 then #[] else z.cells)[· % (if n * size = 0 then #[] else z.cells).size]!)) vs.toList = some cells) :
    Grows C o F L (fun _ : Nat => True) (fun b => .slice (some ⟨b, 0, none⟩) n n) (fun b => [HL.obj b (.cells cells e (0, 0))]) :=
  grows_new (fun c h => (by rw [ho] at h; cases h)) fun a w ok => by
    have hs : ¬ (2 ^ 24 < n * size) := by omega
    simp only [execOp, ho, parts_eq ok hv]
    simp only [Instr.buildSlice, Sem.run_bind, run_underlying ht, Result.andThen_ok, hz]
    rw [if_neg hs]
    by_cases h0 : n * size = 0
    · simp only [h0, if_true] at hf
      simp only [h0, if_true, Sem.run_bind, Sem.run_pure, Result.andThen_ok, hf]
      simp [newRow]
    · simp only [h0, if_false] at hf
      simp only [h0, if_false, Sem.run_bind, Sem.run_pure, Result.andThen_ok, hzv, hf]
      simp [newRow]
theorem fill_one {n : Nat} {v : Value} {zs : Array Value} (hn : v.cells.size = n) (hz : zs.size = n) : Instr.fill (fun i => some (i * n, n)) zs [(0, v)] = some v.cells := by
  have key : ∀ (l : List Value) (k : Nat) (cs : Array Value), k + l.length = cs.size → ((l.zipIdx k).foldl (fun cs (c, j) => cs.setIfInBounds (0 + j) c) cs) = (cs.toList.take k ++ l).toArray := by
    intro l
    induction l with
    | nil => intro k cs h; simp only [List.length_nil, Nat.add_zero] at h; subst h; simp [List.take_of_length_le]
    | cons c l ih =>
      intro k cs h
      simp only [List.zipIdx_cons, List.foldl_cons]
      rw [ih (k + 1) _ (by simp only [List.length_cons] at h; rw [Array.size_setIfInBounds]; omega)]
      simp only [List.length_cons] at h
      have hk : k < cs.size := by omega
      simp only [Nat.zero_add, Array.toList_setIfInBounds]
      rw [List.take_add_one]
      simp [List.take_set, hk]
      rw [List.set_eq_of_length_le (by simp; omega)]
  have h0 : v.cells.zipIdx.foldl (fun cs (c, j) => cs.setIfInBounds (0 * n + j) c) zs = v.cells := by
    rw [← Array.foldl_toList, Array.toList_zipIdx]
    have := key v.cells.toList 0 zs (by simp [hn, hz])
    simpa using this
  simp only [Instr.fill]
  have hc : ¬ (v.cells.size ≠ n || decide (0 * n + v.cells.size > zs.size)) = true := by simp [hn, hz]
  rw [if_neg hc]
  simpa using h0
/-- A slice of one element: the source of 'append(l, x)'. -/
theorem Grows.slice1 {t e : TypeId} {size : Nat} {x : Operand} {v z : Value} (ho : o.op = .buildSlice t 1 #[(0, x)]) (hx : F.ev x = some v) (ht : C.P.underlying t = some (.slice e)) (hz : ∀ w, (sizeOf e).run C.P w = .ok size w)
    (hv : v.cells.size = size) (hzv : ∀ w, (zeroValue e).run C.P w = .ok z w) (hsmall : size ≤ 16777216) :
    Grows C o F L (fun _ : Nat => True) (fun b => .slice (some ⟨b, 0, none⟩) 1 1) (fun b => [HL.obj b (.cells v.cells e (0, 0))]) := by
  by_cases h0 : size = 0
  · subst h0
    exact Grows.buildSlice (vs := #[(0, v)]) ho (by simp [hx]) ht hz hzv (by omega) (fill_one (n := 0) (zs := (Array.range (1 * 0)).map _) hv (by simp))
  · exact Grows.buildSlice (vs := #[(0, v)]) ho (by simp [hx]) ht hz hzv (by omega) (fill_one (zs := (Array.range (1 * size)).map _) hv (by simp))
/-- The zero cells of n elements. -/
def zeros (n : Nat) (zs : List Value) : Array Value := ((List.replicate n zs).flatten).toArray
theorem madeCells_eq (z : Array Value) (n : Nat) : madeCells z (n * z.size) = zeros n z.toList := by
  apply Array.ext'
  simp only [zeros]
  apply List.ext_getElem?
  intro j
  by_cases hz : z.size = 0
  · have hz' : z.toList = [] := by simpa using hz
    rw [hz']
    simp [madeCells, hz]
  · by_cases hj : j < n * z.size
    · have hm : j % z.size < z.size := Nat.mod_lt _ (by omega)
      have e1 : (madeCells z (n * z.size)).toList[j]? = z[j % z.size]? := by
        simp [madeCells, hj, hm]
      rw [e1]
      have key : ∀ (n j : Nat), j < n * z.size → ((List.replicate n z.toList).flatten)[j]? = z[j % z.size]? := by
        intro n
        induction n with
        | zero => intro j hj; simp at hj
        | succ n ih =>
          intro j hj
          rw [List.replicate_succ, List.flatten_cons]
          by_cases h1 : j < z.size
          · rw [List.getElem?_append_left (by simpa using h1), Nat.mod_eq_of_lt h1]; simp
          · rw [List.getElem?_append_right (by simp; omega)]
            have : (j - z.size) % z.size = j % z.size := (Nat.mod_eq_sub_mod (by omega)).symm
            rw [Nat.succ_mul] at hj
            simp only [Array.length_toList]
            rw [ih (j - z.size) (by omega), this]
      exact (key n j hj).symm
    · rw [List.getElem?_eq_none (by simp [madeCells]; omega), List.getElem?_eq_none]
      simp [List.length_flatten]; omega
theorem Grows.makeSlice {t e : TypeId} {x y : Operand} {n size bytes : Nat} {k k' : IntKind} {z : Value} (ho : o.op = .makeSlice t x y) (hx : F.ev x = some (.int k (n : Int))) (hy : F.ev y = some (.int k' (n : Int)))
    (ht : C.P.underlying t = some (.slice e)) (hi : (C.P.info? e).map (fun i => (i.zero, i.size, i.bytes)) = some (some z, size, bytes)) (hzs : z.cells.size = size) (hb : bytes * n ≤ 281474976710656) (hn : n ≤ 9223372036854775807) :
    Grows C o F L (fun _ : Nat => True) (fun b => .slice (some ⟨b, 0, none⟩) n n) (fun b => [HL.obj b (.cells (zeros n z.cells.toList) e (0, 0))]) :=
  grows_new (fun c h => (by rw [ho] at h; cases h)) fun a w ok => by
    obtain ⟨i, hi0, hi1, hi2, hi3⟩ := info_parts hi
    have hb' : (i.bytes : Int) * (n : Int) ≤ 281474976710656 := by
      have h : ((i.bytes * n : Nat) : Int) ≤ 281474976710656 := by rw [hi3]; omega
      rwa [Int.natCast_mul] at h
    have hr := run_make (P := C.P) w t e i z ht hi0 hi1 k k' n n (by omega) (Int.le_refl _) hb' (by omega)
    simp only [Int.toNat_natCast, hi2, ← hzs, madeCells_eq] at hr
    simp only [execOp, ho, ok.fr.ev hx, ok.fr.ev hy]
    simp [hr]
/-! ### Stores -/
def putAll (cs : Array Value) (k : Nat) : List Value → Array Value
  | [] => cs
  | v :: r => putAll (cs.setIfInBounds k v) (k + 1) r
theorem size_putAll : ∀ (vs : List Value) (cs : Array Value) (k : Nat), (putAll cs k vs).size = cs.size
  | [], _, _ => rfl
  | v :: r, cs, k => by rw [putAll, size_putAll r]; simp
theorem frozen_free {w : World} {b k : Nat} {cs : Array Value} {t : TypeId} (h : w.heap[b]? = some (.cells cs t (0, 0))) : w.frozen? ⟨b, k, none⟩ = false := by simp [World.frozen?, h]
theorem run_storeCells_own {P : Program} {b : Nat} {t : TypeId} : ∀ (vs : List Value) (i : Nat) (k : Nat) (cs : Array Value) (w : World), w.heap[b]? = some (.cells cs t (0, 0)) → k + i + vs.length ≤ cs.size → (∀ v ∈ vs, v.oneCell' = true) →
    ∃ w', (storeCells ⟨b, k, none⟩ vs i).run P w = .ok () w' ∧ w'.heap[b]? = some (.cells (putAll cs (k + i) vs) t (0, 0)) ∧ Old (fun c => c = b) w w' ∧ w'.heap.size = w.heap.size
  | [], i, k, cs, w, h, _, _ => ⟨w, rfl, h, Old.refl _ w, rfl⟩
  | v :: r, i, k, cs, w, h, hl, h1 => by
    simp only [List.length_cons] at hl
    have hk : k + i < cs.size := by omega
    have hcell : w.cell? ⟨b, k + i, none⟩ = some cs[k + i] := cell_of_obj h (by simp [hk])
    have hs := heap_setCell (k := k + i) h v
    obtain ⟨w', hr, hh, ho, hz⟩ := run_storeCells_own r (i + 1) k (cs.setIfInBounds (k + i) v) _ hs (by simp; omega) (fun u hu => h1 u (by simp [hu]))
    refine ⟨w', ?_, hh, (Old.setCell (S := fun c => c = b) w ⟨b, k + i, none⟩ v rfl).trans ho, by simpa using hz⟩
    simp only [storeCells, Sem.run_bind, add_new, run_store P w _ v .plain (h1 v (by simp)), hcell, frozen_free h, Bool.false_eq_true, if_false, Result.andThen_ok]
    exact hr
theorem Does.store {t : TypeId} {x y : Operand} {i b k n : Nat} {cs : Array Value} {e : TypeId} {v : Value} (ho : o.op = .store t x y) (hx : F.ev x = some (.pointer (some ⟨b, k, none⟩))) (hy : F.ev y = some v)
    (hi : L[i]? = some (HL.obj b (.cells cs e (0, 0)))) (hz : ∀ w, (sizeOf t).run C.P w = .ok n w) (hn : v.cells.size = n) (hk : Nat.ble (k + n) cs.size = true) (h1 : v.cells.toList.all Value.oneCell' = true) :
    Does C o F L (fun _ : Unit => True) (fun _ => undef) (fun _ => L.set i (HL.obj b (.cells (putAll cs k v.cells.toList) e (0, 0)))) := fun a w ok next Q h => by
  obtain ⟨w', hr, hh, hold, hsz⟩ := run_storeCells_own (P := C.P) v.cells.toList 0 k cs w (ok.sym.at hi) (by have := Nat.le_of_ble_eq_true hk; simp [hn]; omega) (List.all_eq_true.1 h1)
  simp only [Nat.add_zero] at hh
  refine wpIn_skip' (fun c h => (by rw [ho] at h; cases h)) (w' := w') ?_ (h () w' trivial ?_)
  · simp only [execOp, ho, ok.fr.ev hx, ok.fr.ev hy]
    simp [Instr.storeAt, Instr.sureAddr, storeVar, hn, hz, hr]
  · exact ok.sym.turn hi (fun c hc => ⟨.inl hc, by have e : c = b := hc; subst e; rw [hsz]; exact ok.sym.lt hi⟩) hold hh
/-- One cell. -/
theorem Does.store1 {t : TypeId} {x y : Operand} {i b k : Nat} {cs : Array Value} {e : TypeId} {v : Value} (ho : o.op = .store t x y) (hx : F.ev x = some (.pointer (some ⟨b, k, none⟩))) (hy : F.ev y = some v)
    (hi : L[i]? = some (HL.obj b (.cells cs e (0, 0)))) (hz : ∀ w, (sizeOf t).run C.P w = .ok 1 w) (h1 : v.oneCell' = true) (hk : Nat.blt k cs.size = true) :
    Does C o F L (fun _ : Unit => True) (fun _ => undef) (fun _ => L.set i (HL.obj b (.cells (cs.setIfInBounds k v) e (0, 0)))) := by
  have hc : v.cells = #[v] := by cases v <;> first | rfl | cases h1
  have := Does.store (n := 1) ho hx hy hi hz (by simp [hc]) (Nat.ble_eq_true_of_le (by have := Nat.le_of_ble_eq_true hk; omega)) (by simp [hc, h1])
  simpa [hc, putAll] using this
/-! ### Slices that are appended to -/
/-- The slice value v has n elements of type e, k cells each, and owns the cells xs (there may be room behind). -/
def HL.own (e : TypeId) (k : Nat) (v : Value) (n : Nat) (xs : List Value) : HL :=
  ⟨fun b => v.ownBlock = some b, fun w => w.ownsRow 0 e k v n xs, fun w w' h hh => by
    refine ⟨hh.1, ?_⟩
    rcases hh.2 with h2 | ⟨g, cap, cur, hv, hg, hb, r⟩
    · exact .inl h2
    · exact .inr ⟨g, cap, cur, hv, hg, (h g (by rw [hv]; rfl)).trans hb, r⟩⟩
theorem append_block {P : Program} {w w' : World} {t e ty : TypeId} {inf : TypeInfo} {z v v' : Value} {n m c : Nat} {xs news : List Value} {A : Addr} (ht : P.underlying t = some (.slice e)) (hi0 : P.info? e = some inf) (hi1 : inf.zero = some z)
    (hown : w.ownsRow 0 e inf.size v n xs) (hl : news.length = m * inf.size) (hnews : ∀ j u, news[j]? = some u → w.cell? (A.add j) = some u) (h1 : ∀ u ∈ news, u.oneCell' = true) (hb : (n + m) * inf.bytes ≤ 140737488355328) (hm : n + m ≤ 9223372036854775807)
    (hr : (Builtin.append_ #[t, t] ty #[v, .slice (some A) m c]).run P w = .ok v' w') : v'.ownBlock = v.ownBlock ∨ v'.ownBlock = some w.heap.size := by
  rcases hown.2 with ⟨rfl, rfl⟩ | ⟨g, cap, cur, rfl, hbg, hg, hnc, hcm, hcs, htake⟩
  · by_cases h0 : m = 0
    · subst h0
      have hn : news = [] := List.eq_nil_of_length_eq_zero (by simpa using hl)
      left
      have : (Builtin.append_ #[t, t] ty #[.slice none 0 0, .slice (some A) 0 c]).run P w = .ok (.slice none 0 0) w := by
        simp [Builtin.append_, run_underlying ht, sizeOf, typeInfo, hi0, Builtin.lenOf, Builtin.firstCells, loadCells, loadCellsFrom]
      rw [this] at hr
      cases hr; rfl
    · right
      have := run_append_nil (P := P) w t ty e inf z ht hi0 hi1 A m c news hl hnews (by omega) (by omega) (by have := hb; simp only [Nat.zero_add] at this; omega)
      rw [this] at hr
      cases hr; rfl
  · by_cases hroom : n + m ≤ cap
    · left
      have hfit : n * inf.size + news.length ≤ cur.size := by rw [hl, hcs, ← Nat.add_mul]; exact Nat.mul_le_mul_right _ hroom
      have := run_append_room (P := P) w t ty e inf ht hi0 g n cap cur hg A m c news hl hnews h1 hroom hfit
      rw [this] at hr
      cases hr; rfl
    · right
      have holds : ∀ j u, xs[j]? = some u → w.cell? ((⟨g, 0, none⟩ : Addr).add j) = some u := hown.cells (g := g) rfl
      have := run_append_grow (P := P) w t ty e inf z ht hi0 hi1 ⟨g, 0, none⟩ n cap xs hown.1 holds A m c news hl hnews (by omega) (by omega) (growslice_fits (by omega) hb)
      rw [this] at hr
      cases hr; rfl
theorem Does.append {t e ty : TypeId} {x y : Operand} {i n k m c bytes : Nat} {v z : Value} {xs news : List Value} {A : Addr} (ho : o.op = .call { callee := .builtin .append, args := #[x, y], argTypes := #[t, t] }) (hty : o.type = ty)
    (hx : F.ev x = some v) (hy : F.ev y = some (.slice (some A) m c)) (hi : L[i]? = some (HL.own e k v n xs)) (ht : C.P.underlying t = some (.slice e))
    (hinf : (C.P.info? e).map (fun i => (i.zero, i.size, i.bytes)) = some (some z, k, bytes)) (hzs : z.cells.size = k) (hk : 0 < k)
    (hnews : ∀ w, Sym C.w0 C.S L w → Cells w A news) (hl : news.length = m * k) (h1 : ∀ u ∈ news, u.oneCell' = true) (hb : (n + m) * bytes ≤ 140737488355328) (hm : n + m ≤ 9223372036854775807) :
    Does C o F L (fun v' : Value => v' = .slice none 0 0 ↔ v = .slice none 0 0 ∧ m = 0) (fun v' => v') (fun v' => L.set i (HL.own e k v' (n + m) (xs ++ news))) := fun a w ok next Q h => by
  obtain ⟨inf, hi0, hi1, hi2, hi3⟩ := info_parts hinf
  have hown : w.ownsRow 0 e k v n xs := ok.sym.at hi
  obtain ⟨v', w', hr, hown', hg, hnil⟩ := run_append_own (P := C.P) w 0 t ty e inf z k bytes ht hi0 hi1 hi2 hi3 hzs hk v n xs hown A m c news hl (fun j u hj => hnews w ok.sym j u hj) h1 (by simpa [maxLen] using hm) hb (Nat.zero_le _)
  refine wpIn_value (fun c h => (by rw [ho] at h; cases h)) (w' := w') (v := v') ?_ (h v' w' hnil ?_)
  · obtain ⟨d, op, ty', ps, af, g⟩ := o
    subst ho; subst hty
    rw [BigFrame.execOp_builtin, BigFrame.builtin_append]
    simp [ok.fr.ev hx, ok.fr.ev hy, hr]
  · have hold : Old (HL.own e k v n xs).supp w w' := ⟨hg.os, hg.tape, hg.output, hg.size, fun j hj hn' => hg.block j hj (fun e => hn' e.symm)⟩
    refine ok.sym.turn hi (fun b hbb => ⟨?_, (hown'.lt b hbb).2⟩) hold hown'
    subst hi2; subst hi3
    rcases append_block ht hi0 hi1 hown hl (fun j u hj => hnews w ok.sym j u hj) h1 hb hm hr with e1 | e1
    · left; exact e1.symm.trans hbb
    · right
      have : some b = some w.heap.size := (show v'.ownBlock = some b from hbb).symm.trans e1
      cases this; exact Nat.le_refl _
/-- Nothing is owned yet. -/
theorem Sym.own_nil {w0 w : World} {S : Nat → Prop} {L : List HL} (hs : Sym w0 S L w) (e : TypeId) (k : Nat) : Sym w0 S (HL.own e k (.slice none 0 0) 0 [] :: L) w := by
  refine ⟨hs.old, fun h hm => ?_, fun h hm b hb => ?_, List.pairwise_cons.2 ⟨fun h _ b hb => ?_, hs.apart⟩⟩
  · rcases List.mem_cons.1 hm with rfl | hm
    · exact World.ownsRow_nil w 0 e k
    · exact hs.holds h hm
  · rcases List.mem_cons.1 hm with rfl | hm
    · cases hb
    · exact hs.supp h hm b hb
  · cases hb
theorem RunL.own_nil {ops : Array Oper} {Q : Exit → Act → World → Prop} {l : List Oper} (e : TypeId) (k : Nat) (h : RunL C ops Q l F (HL.own e k (.slice none 0 0) 0 [] :: L)) : RunL C ops Q l F L := fun a w ok => h a w ⟨ok.fr, ok.sym.own_nil e k⟩
theorem RunC.own_nil {c : Code} {Q : Exit → Act → World → Prop} (e : TypeId) (k : Nat) (h : RunC C c Q F (HL.own e k (.slice none 0 0) 0 [] :: L)) : RunC C c Q F L := fun a w ok => h a w ⟨ok.fr, ok.sym.own_nil e k⟩
/-- A whole block is owned. -/
theorem own_of_obj {w : World} {b : Nat} {cs : Array Value} {e : TypeId} {n k : Nat} (h : w.heap[b]? = some (.cells cs e (0, 0))) (hs : cs.size = n * k) (hm : n ≤ 9223372036854775807) : w.ownsRow 0 e k (.slice (some ⟨b, 0, none⟩) n n) n cs.toList := by
  refine ⟨by simpa using hs, .inr ⟨b, n, cs, rfl, Nat.zero_le _, h, Nat.le_refl _, by simpa [maxLen] using hm, hs, ?_⟩⟩
  rw [List.take_of_length_le]
  simp [hs]
/-- What is owned lies in a block, or there is nothing. -/
theorem RunL.open_own {ops : Array Oper} {Q : Exit → Act → World → Prop} {l : List Oper} {i n k : Nat} {e : TypeId} {v : Value} {xs : List Value} (hi : L[i]? = some (HL.own e k v n xs))
    (h0 : v = .slice none 0 0 → n = 0 → xs = [] → RunL C ops Q l F L)
    (h1 : ∀ (b cap : Nat) (cs : Array Value), v = .slice (some ⟨b, 0, none⟩) n cap → n ≤ cap → cs.size = cap * k → cs.toList.take (n * k) = xs → RunL C ops Q l F (L.set i (HL.obj b (.cells cs e (0, 0))))) : RunL C ops Q l F L := fun a w ok => by
  have hown : w.ownsRow 0 e k v n xs := ok.sym.at hi
  rcases hown.2 with ⟨hv, hn⟩ | ⟨g, cap, cur, hv, _, hg, hnc, hcm, hcs, htake⟩
  · exact h0 hv hn (List.eq_nil_of_length_eq_zero (by simpa [hn] using hown.1)) a w ok
  · refine h1 g cap cur hv hnc hcs htake a w ⟨ok.fr, ok.sym.turn hi (fun c hc => ⟨.inl ?_, ?_⟩) (Old.refl _ w) hg⟩
    · have e1 : c = g := hc
      subst e1; show v.ownBlock = some c; rw [hv]; rfl
    · have e1 : c = g := hc
      subst e1; exact (hown.lt c (by rw [hv]; rfl)).2
/-! ### Calls -/
theorem Grows.call {f : FuncId} {xs : Array Operand} {ts : Array TypeId} {vs : Array Value} {γ : Type} {φ : γ → Prop} {V : γ → Value} {H : γ → List HL} (ho : o.op = .call { callee := .value (.func f), args := xs, argTypes := ts })
    (hv : xs.toList.map F.ev = vs.toList.map some) (hc : ∀ args w, (callFunc f args).run C.P w = .ok (.enter f args) w) (hfn : ∀ w, Sym C.w0 C.S L w → Gives C.P f vs w Nil φ V H) : Grows C o F L φ V H := fun a w ok next Q h => by
  refine ⟨fun _ _ => trivial, ?_⟩
  rw [Oper.semAt_eq _ _ _ (fun c h => by rw [ho] at h; cases h)]
  have e : xs.map a.eval = vs := by
    apply Array.ext'
    rw [Array.toList_map]
    revert hv
    generalize xs.toList = l
    generalize vs.toList = m
    induction l generalizing m with
    | nil => intro h; cases m <;> simp at h ⊢
    | cons p l ih =>
      intro h
      cases m with
      | nil => simp at h
      | cons q m =>
        simp only [List.map_cons, List.cons.injEq] at h ⊢
        exact ⟨ok.fr.ev h.1, ih m h.2⟩
  have hrun : (execOp a.eval o).run C.P w = .ok (.enter f vs) w := by
    simp only [execOp, ho, resolve, e]
    simp [Act.eval, Deferred.ofValue, invoke, hc]
  rw [hrun, Oper.uponIn_enter]
  refine ⟨fun h => by simp [FW] at h, callsFW.2 ((hfn w ok.sym).mono ?_)⟩
  rintro en w' ⟨g, hφ, rfl, hs⟩
  exact h g w' hφ hs.old (ok.sym.grow hs.old hs.holds (fun k hk b hb => by have h1 := hs.supp k hk b hb; exact ⟨h1.2.resolve_right (fun x => x), h1.1⟩) hs.apart)
/-- A call of a function value. -/
theorem Grows.callV {f : FuncId} {x : Operand} {cap : Array Value} {xs : Array Operand} {ts : Array TypeId} {vs : Array Value} {γ : Type} {φ : γ → Prop} {V : γ → Value} {H : γ → List HL} (ho : o.op = .call { callee := .value x, args := xs, argTypes := ts })
    (hx : F.ev x = some (.func (.func f) #[] cap)) (hv : xs.toList.map F.ev = vs.toList.map some) (hc : ∀ args w, (callFunc f args).run C.P w = .ok (.enter f args) w) (hfn : ∀ w, Sym C.w0 C.S L w → Gives C.P f (vs ++ cap) w Nil φ V H) : Grows C o F L φ V H := fun a w ok next Q h => by
  refine ⟨fun _ _ => trivial, ?_⟩
  rw [Oper.semAt_eq _ _ _ (fun c h => by rw [ho] at h; cases h)]
  have e : xs.map a.eval = vs := by
    apply Array.ext'
    rw [Array.toList_map]
    revert hv
    generalize xs.toList = l
    generalize vs.toList = m
    induction l generalizing m with
    | nil => intro h; cases m <;> simp at h ⊢
    | cons p l ih =>
      intro h
      cases m with
      | nil => simp at h
      | cons q m =>
        simp only [List.map_cons, List.cons.injEq] at h ⊢
        exact ⟨ok.fr.ev h.1, ih m h.2⟩
  have hrun : (execOp a.eval o).run C.P w = .ok (.enter f (vs ++ cap)) w := by
    simp only [execOp, ho, resolve, e, ok.fr.ev hx]
    simp [Deferred.ofValue, invoke, hc]
  rw [hrun, Oper.uponIn_enter]
  refine ⟨fun h => by simp [FW] at h, callsFW.2 ((hfn w ok.sym).mono ?_)⟩
  rintro en w' ⟨g, hφ, rfl, hs⟩
  exact h g w' hφ hs.old (ok.sym.grow hs.old hs.holds (fun k hk b hb => by have h1 := hs.supp k hk b hb; exact ⟨h1.2.resolve_right (fun x => x), h1.1⟩) hs.apart)
/-- A call that turns the blocks S' of the heaplets K, which are handed over. -/
theorem Sym.handed {w0 w w' : World} {S S' : Nat → Prop} {K R H : List HL} (hs : Sym w0 S (K ++ R) w) (hk : ∀ b, S' b → b < w.heap.size → ∃ k ∈ K, k.supp b) (hc : Sym w S' H w') : Sym w0 S (H ++ R) w' := by
  have hp := List.pairwise_append.1 hs.apart
  have hfree : ∀ r ∈ R, ∀ b, r.supp b → ¬ S' b := fun r hr b hb hS => by
    obtain ⟨k, hkm, hkb⟩ := hk b hS (hs.supp r (List.mem_append_right _ hr) b hb).1
    exact hp.2.2 k hkm r hr b hkb hb
  refine ⟨hs.old.step hc.old (fun i hi hS => ?_), fun h hm => ?_, fun h hm b hb => ?_, List.pairwise_append.2 ⟨hc.apart, hp.2.1, fun h hm r hr b hb rb => ?_⟩⟩
  · have hz := hs.old.size
    obtain ⟨k, hkm, hkb⟩ := hk i hS (by omega)
    rcases (hs.supp k (List.mem_append_left _ hkm) i hkb).2 with h1 | h1
    · omega
    · exact h1
  · rcases List.mem_append.1 hm with hm | hm
    · exact hc.holds h hm
    · exact h.loc w w' (fun b hb => hc.old.block b (hs.supp h (List.mem_append_right _ hm) b hb).1 (hfree h hm b hb)) (hs.holds h (List.mem_append_right _ hm))
  · have hz := hs.old.size
    have hz' := hc.old.size
    rcases List.mem_append.1 hm with hm | hm
    · have h1 := hc.supp h hm b hb
      refine ⟨h1.1, ?_⟩
      rcases h1.2 with h2 | h2
      · exact .inl (by omega)
      · by_cases hlt : b < w.heap.size
        · obtain ⟨k, hkm, hkb⟩ := hk b h2 hlt
          exact (hs.supp k (List.mem_append_left _ hkm) b hkb).2
        · exact .inl (by omega)
    · have h1 := hs.supp h (List.mem_append_right _ hm) b hb
      exact ⟨by omega, h1.2⟩
  · have h1 := hc.supp h hm b hb
    have h2 := (hs.supp r (List.mem_append_right _ hr) b rb).1
    rcases h1.2 with h3 | h3
    · omega
    · exact hfree r hr b rb h3
theorem Does.call {f : FuncId} {xs : Array Operand} {ts : Array TypeId} {vs : Array Value} {γ : Type} {φ : γ → Prop} {V : γ → Value} {H : γ → List HL} {K R : List HL} {S' : Nat → Prop} (ho : o.op = .call { callee := .value (.func f), args := xs, argTypes := ts })
    (hv : xs.toList.map F.ev = vs.toList.map some) (hc : ∀ args w, (callFunc f args).run C.P w = .ok (.enter f args) w) (hL : HSub (K ++ R) L) (hk : ∀ b, S' b → ∃ k ∈ K, k.supp b)
    (hfn : ∀ w, Sym C.w0 C.S (K ++ R) w → Gives C.P f vs w S' φ V H) : Does C o F L φ V (fun g => H g ++ R) := fun a w ok next Q h => by
  refine ⟨fun _ _ => trivial, ?_⟩
  rw [Oper.semAt_eq _ _ _ (fun c h => by rw [ho] at h; cases h)]
  have e : xs.map a.eval = vs := by
    apply Array.ext'
    rw [Array.toList_map]
    revert hv
    generalize xs.toList = l
    generalize vs.toList = m
    induction l generalizing m with
    | nil => intro h; cases m <;> simp at h ⊢
    | cons p l ih =>
      intro h
      cases m with
      | nil => simp at h
      | cons q m =>
        simp only [List.map_cons, List.cons.injEq] at h ⊢
        exact ⟨ok.fr.ev h.1, ih m h.2⟩
  have hrun : (execOp a.eval o).run C.P w = .ok (.enter f vs) w := by
    simp only [execOp, ho, resolve, e]
    simp [Act.eval, Deferred.ofValue, invoke, hc]
  rw [hrun, Oper.uponIn_enter]
  have hsub := ok.sym.sub hL
  refine ⟨fun h => by simp [FW] at h, callsFW.2 ((hfn w hsub).mono ?_)⟩
  rintro en w' ⟨g, hφ, rfl, hs⟩
  exact h g w' hφ (hsub.handed (fun b hb _ => hk b hb) hs)
end mem
end Go.V
namespace Go.V
open Go
/-- The cells of a block from k on. -/
def CellsIn (cs : Array Value) : Nat → List Value → Prop
  | _, [] => True
  | k, v :: r => cs[k]? = some v ∧ CellsIn cs (k + 1) r
theorem CellsIn.get {cs : Array Value} : ∀ {vs : List Value} {k : Nat}, CellsIn cs k vs → ∀ j v, vs[j]? = some v → cs[k + j]? = some v
  | [], _, _, j, v, h => by simp at h
  | u :: r, k, hh, 0, v, h => by simp at h; subst h; exact hh.1
  | u :: r, k, hh, j + 1, v, h => by
    have := CellsIn.get hh.2 j v (by simpa using h)
    rwa [show k + (j + 1) = k + 1 + j by omega]
theorem cells_obj {w : World} {b k : Nat} {cs : Array Value} {t : TypeId} {fz : Nat × Nat} {vs : List Value} (h : w.heap[b]? = some (.cells cs t fz)) (hv : CellsIn cs k vs) : Cells w ⟨b, k, none⟩ vs := fun j v hj => by
  rw [add_new]; exact cell_of_obj h (hv.get j v hj)
def nth {α : Type} : List α → Nat → Option α
  | [], _ => none
  | v :: _, 0 => some v
  | _ :: r, k + 1 => nth r k
theorem nth_eq {α : Type} : ∀ (l : List α) (k : Nat), nth l k = l[k]?
  | [], k => by simp [nth]
  | v :: r, 0 => by simp [nth]
  | v :: r, k + 1 => by simp [nth, nth_eq r k]
theorem cell_nth {w : World} {b k : Nat} {cs : Array Value} {t : TypeId} {fz : Nat × Nat} {v : Value} (h : w.heap[b]? = some (.cells cs t fz)) (hk : nth cs.toList k = some v) : w.cell? ⟨b, k, none⟩ = some v :=
  cell_of_obj h (by rw [nth_eq] at hk; simpa using hk)
/-- The same by 'nth'. -/
def CellsAt (cs : List Value) : Nat → List Value → Prop
  | _, [] => True
  | k, v :: r => nth cs k = some v ∧ CellsAt cs (k + 1) r
theorem CellsAt.cellsIn {cs : Array Value} : ∀ {vs : List Value} {k : Nat}, CellsAt cs.toList k vs → CellsIn cs k vs
  | [], _, _ => trivial
  | _ :: _, _, h => ⟨by have := h.1; rw [nth_eq] at this; simpa using this, CellsAt.cellsIn h.2⟩
theorem cells_nth {w : World} {b k : Nat} {cs : Array Value} {t : TypeId} {fz : Nat × Nat} {vs : List Value} (h : w.heap[b]? = some (.cells cs t fz)) (hv : CellsAt cs.toList k vs) : Cells w ⟨b, k, none⟩ vs := cells_obj h hv.cellsIn
section loc
variable {C : Cx} {F : Fr} {L : List HL} {o : Oper}
theorem Still.fieldAddrL {s : TypeId} {x : Operand} {k b off off' : Nat} {fs : Array Field} {f : Field} {n : Nat} (ho : o.op = .fieldAddr s x k) (hx : F.ev x = some (.pointer (some ⟨b, off, none⟩))) (hs : C.P.underlying s = some (.struct fs)) (hf : nth fs.toList k = some f)
    (hz : ∀ w, (sizeOf f.type).run C.P w = .ok (n + 1) w) (he : off + f.offset = off') : Still C o F L (.pointer (some ⟨b, off', none⟩)) := by
  have := Still.fieldAddr (L := L) ho hx hs (by rw [nth_eq] at hf; simpa using hf) hz; rw [add_new, he] at this; exact this
theorem Still.fieldAddrA {s : TypeId} {x : Operand} {k off : Nat} {A : Addr} {fs : Array Field} {f : Field} {n : Nat} (ho : o.op = .fieldAddr s x k) (hx : F.ev x = some (.pointer (some A))) (hs : C.P.underlying s = some (.struct fs)) (hf : nth fs.toList k = some f)
    (hz : ∀ w, (sizeOf f.type).run C.P w = .ok (n + 1) w) (he : f.offset = off) : Still C o F L (.pointer (some (A.add off))) := by
  have := Still.fieldAddr (L := L) ho hx hs (by rw [nth_eq] at hf; simpa using hf) hz; rw [he] at this; exact this
theorem Still.extractN {x : Operand} {i : Nat} {vs : Array Value} {v : Value} (ho : o.op = .extract x i) (hx : F.ev x = some (.tuple vs)) (hv : nth vs.toList i = some v) : Still C o F L v :=
  Still.extract ho hx (by rw [nth_eq] at hv; simpa using hv)
theorem Still.indexSliceL {t e : TypeId} {x ix : Operand} {b off len cap : Nat} {k : IntKind} {i : Int} {n : Nat} (ho : o.op = .indexAddr t x ix) (hx : F.ev x = some (.slice (some ⟨b, off, none⟩) len cap)) (hi : F.ev ix = some (.int k i))
    (ht : C.P.underlying t = some (.slice e)) (hz : ∀ w, (sizeOf e).run C.P w = .ok n w) (hb : 0 ≤ i ∧ i < len) : Still C o F L (.pointer (some ⟨b, off + i.toNat * n, none⟩)) := by
  have := Still.indexSlice (L := L) ho hx hi ht hz hb; rwa [add_new] at this
theorem Still.indexArrL {t e : TypeId} {x ix : Operand} {b off len : Nat} {k : IntKind} {i : Int} {n : Nat} (ho : o.op = .indexAddr t x ix) (hx : F.ev x = some (.pointer (some ⟨b, off, none⟩))) (hi : F.ev ix = some (.int k i))
    (ht : C.P.underlying t = some (.array len e)) (hz : ∀ w, (sizeOf e).run C.P w = .ok n w) (hb : 0 ≤ i ∧ i < len) : Still C o F L (.pointer (some ⟨b, off + i.toNat * n, none⟩)) := by
  have := Still.indexArr (L := L) ho hx hi ht hz hb; rwa [add_new] at this
theorem Still.indexSliceO {t e : TypeId} {x ix : Operand} {base : Option Addr} {A : Addr} {len cap : Nat} {k : IntKind} {i : Int} {n : Nat} (ho : o.op = .indexAddr t x ix) (hx : F.ev x = some (.slice base len cap)) (hi : F.ev ix = some (.int k i))
    (ht : C.P.underlying t = some (.slice e)) (hz : ∀ w, (sizeOf e).run C.P w = .ok n w) (hA : base = some A) (hb : 0 ≤ i ∧ i < len) : Still C o F L (.pointer (some (A.add (i.toNat * n)))) := by
  subst hA; exact Still.indexSlice ho hx hi ht hz hb
theorem Still.indexSliceN {t e : TypeId} {x ix : Operand} {base : Option Addr} {A : Addr} {len cap : Nat} {k : IntKind} {m : Nat} {n : Nat} (ho : o.op = .indexAddr t x ix) (hx : F.ev x = some (.slice base len cap)) (hi : F.ev ix = some (.int k (m : Int)))
    (ht : C.P.underlying t = some (.slice e)) (hz : ∀ w, (sizeOf e).run C.P w = .ok n w) (hA : base = some A) (hb : m < len) : Still C o F L (.pointer (some (A.add (m * n)))) := by
  have := Still.indexSliceO (L := L) ho hx hi ht hz hA ⟨by omega, by omega⟩
  simpa using this
theorem Still.indexArrN {t e : TypeId} {x ix : Operand} {A : Addr} {len : Nat} {k : IntKind} {m : Nat} {n : Nat} (ho : o.op = .indexAddr t x ix) (hx : F.ev x = some (.pointer (some A))) (hi : F.ev ix = some (.int k (m : Int)))
    (ht : C.P.underlying t = some (.array len e)) (hz : ∀ w, (sizeOf e).run C.P w = .ok n w) (hb : m < len) : Still C o F L (.pointer (some (A.add (m * n)))) := by
  have := Still.indexArr (L := L) ho hx hi ht hz ⟨by omega, by omega⟩
  simpa using this
theorem Still.indexSliceNL {t e : TypeId} {x ix : Operand} {b off len cap : Nat} {k : IntKind} {m : Nat} {n : Nat} (ho : o.op = .indexAddr t x ix) (hx : F.ev x = some (.slice (some ⟨b, off, none⟩) len cap)) (hi : F.ev ix = some (.int k (m : Int)))
    (ht : C.P.underlying t = some (.slice e)) (hz : ∀ w, (sizeOf e).run C.P w = .ok n w) (hb : m < len) : Still C o F L (.pointer (some ⟨b, off + m * n, none⟩)) := by
  have := Still.indexSliceL (L := L) ho hx hi ht hz ⟨by omega, by omega⟩
  simpa using this
theorem Still.indexArrNL {t e : TypeId} {x ix : Operand} {b off len : Nat} {k : IntKind} {m : Nat} {n : Nat} (ho : o.op = .indexAddr t x ix) (hx : F.ev x = some (.pointer (some ⟨b, off, none⟩))) (hi : F.ev ix = some (.int k (m : Int)))
    (ht : C.P.underlying t = some (.array len e)) (hz : ∀ w, (sizeOf e).run C.P w = .ok n w) (hb : m < len) : Still C o F L (.pointer (some ⟨b, off + m * n, none⟩)) := by
  have := Still.indexArrL (L := L) ho hx hi ht hz ⟨by omega, by omega⟩
  simpa using this
theorem Still.indexSliceE {t e : TypeId} {x ix : Operand} {base : Option Addr} {A : Addr} {len cap : Nat} {k : IntKind} {i : Int} (m : Nat) {n : Nat} (ho : o.op = .indexAddr t x ix) (hx : F.ev x = some (.slice base len cap)) (hi : F.ev ix = some (.int k i))
    (ht : C.P.underlying t = some (.slice e)) (hz : ∀ w, (sizeOf e).run C.P w = .ok n w) (hA : base = some A) (hm : i = (m : Int)) (hb : m < len) : Still C o F L (.pointer (some (A.add (m * n)))) := by
  subst hm; exact Still.indexSliceN ho hx hi ht hz hA hb
theorem Still.indexArrE {t e : TypeId} {x ix : Operand} {A : Addr} {len : Nat} {k : IntKind} {i : Int} (m : Nat) {n : Nat} (ho : o.op = .indexAddr t x ix) (hx : F.ev x = some (.pointer (some A))) (hi : F.ev ix = some (.int k i))
    (ht : C.P.underlying t = some (.array len e)) (hz : ∀ w, (sizeOf e).run C.P w = .ok n w) (hm : i = (m : Int)) (hb : m < len) : Still C o F L (.pointer (some (A.add (m * n)))) := by
  subst hm; exact Still.indexArrN ho hx hi ht hz hb
theorem Still.indexSliceEL {t e : TypeId} {x ix : Operand} {b off len cap : Nat} {k : IntKind} {i : Int} (m : Nat) {n : Nat} (ho : o.op = .indexAddr t x ix) (hx : F.ev x = some (.slice (some ⟨b, off, none⟩) len cap)) (hi : F.ev ix = some (.int k i))
    (ht : C.P.underlying t = some (.slice e)) (hz : ∀ w, (sizeOf e).run C.P w = .ok n w) (hm : i = (m : Int)) (hb : m < len) : Still C o F L (.pointer (some ⟨b, off + m * n, none⟩)) := by
  subst hm; exact Still.indexSliceNL ho hx hi ht hz hb
theorem Still.indexArrEL {t e : TypeId} {x ix : Operand} {b off len : Nat} {k : IntKind} {i : Int} (m : Nat) {n : Nat} (ho : o.op = .indexAddr t x ix) (hx : F.ev x = some (.pointer (some ⟨b, off, none⟩))) (hi : F.ev ix = some (.int k i))
    (ht : C.P.underlying t = some (.array len e)) (hz : ∀ w, (sizeOf e).run C.P w = .ok n w) (hm : i = (m : Int)) (hb : m < len) : Still C o F L (.pointer (some ⟨b, off + m * n, none⟩)) := by
  subst hm; exact Still.indexArrNL ho hx hi ht hz hb
theorem Sym.base0 {w0 w : World} {L : List HL} (hs : Sym w0 Nil L w) {a : Addr} {v : Value} (hc : w0.cell? a = some v) : w.cell? a = some v := hs.base hc (fun x => x)
theorem Cells.base0 {w0 w : World} {L : List HL} {A : Addr} {vs : List Value} (hc : Cells w0 A vs) (hs : Sym w0 Nil L w) : Cells w A vs := fun j v hj => hs.base0 (hc j v hj)
theorem Fr.get_append (c k : Fr) (t : Nat) : Fr.get (c ++ k) t = (Fr.get c t).or (Fr.get k t) := by
  induction c with
  | nil => simp [Fr.get]
  | cons p r ih =>
    obtain ⟨s, v⟩ := p
    simp only [List.cons_append, Fr.get_cons, ih]
    split <;> simp
theorem Fr.Sub.app {c k F : Fr} (h1 : c.Sub F) (h2 : k.Sub F) : Fr.Sub (c ++ k) F := fun t v h => by
  rw [Fr.get_append] at h
  cases hc : Fr.get c t with
  | some u => rw [hc] at h; simp at h; subst h; exact h1 t u hc
  | none => rw [hc] at h; simp at h; exact h2 t v h
/-- A loop: what is kept (of the frame, of the heaplets), what changes. -/
theorem RunC.loop2 {c : Code} {Q : Exit → Act → World → Prop} {γ : Type} {keep : Fr} {hkeep : List HL} (I : γ → Prop) (μ : γ → Nat) (chg : γ → Fr) (hchg : γ → List HL) (g0 : γ) (h0 : I g0) (hF : (chg g0).Sub F) (hk : keep.Sub F) (hL : HSub (hchg g0 ++ hkeep) L)
    (round : ∀ g, I g → RunC C c (Exit.then (Again C I μ (fun g => chg g ++ keep) (fun g => hchg g ++ hkeep) (μ g)) Q) (chg g ++ keep) (hchg g ++ hkeep)) : RunC C (.loop c) Q F L :=
  RunC.loop I μ (fun g => chg g ++ keep) (fun g => hchg g ++ hkeep) g0 h0 (hF.app hk) hL round
end loc
end Go.V
namespace Go.V
open Go
section builds
variable {C : Cx} {F : Fr} {L : List HL} {o : Oper}
theorem Still.build_1 {t : TypeId} {i0 : Nat} {a0 : Operand} {x0_0 : Value} (g : Value → Value) (ho : o.op = .build t #[(i0, a0)]) (h0 : F.ev a0 = some x0_0) (hr : ∀ w, (Instr.build t #[(i0, x0_0)]).run C.P w = .ok (g x0_0) w) : Still C o F L (g x0_0) :=
  Still.build (vs := #[(i0, x0_0)]) ho (by simp only [List.map_cons, List.map_nil, h0]) hr

theorem Still.build_1_1 {t : TypeId} {i0 i1 : Nat} {a0 a1 : Operand} {x0_0 x1_0 : Value} (g : Value → Value → Value) (ho : o.op = .build t #[(i0, a0), (i1, a1)]) (h0 : F.ev a0 = some x0_0) (h1 : F.ev a1 = some x1_0) (hr : ∀ w, (Instr.build t #[(i0, x0_0), (i1, x1_0)]).run C.P w = .ok (g x0_0 x1_0) w) : Still C o F L (g x0_0 x1_0) :=
  Still.build (vs := #[(i0, x0_0), (i1, x1_0)]) ho (by simp only [List.map_cons, List.map_nil, h0, h1]) hr

theorem Still.build_1_1_1 {t : TypeId} {i0 i1 i2 : Nat} {a0 a1 a2 : Operand} {x0_0 x1_0 x2_0 : Value} (g : Value → Value → Value → Value) (ho : o.op = .build t #[(i0, a0), (i1, a1), (i2, a2)]) (h0 : F.ev a0 = some x0_0) (h1 : F.ev a1 = some x1_0) (h2 : F.ev a2 = some x2_0) (hr : ∀ w, (Instr.build t #[(i0, x0_0), (i1, x1_0), (i2, x2_0)]).run C.P w = .ok (g x0_0 x1_0 x2_0) w) : Still C o F L (g x0_0 x1_0 x2_0) :=
  Still.build (vs := #[(i0, x0_0), (i1, x1_0), (i2, x2_0)]) ho (by simp only [List.map_cons, List.map_nil, h0, h1, h2]) hr

theorem Still.build_1_1_1_1 {t : TypeId} {i0 i1 i2 i3 : Nat} {a0 a1 a2 a3 : Operand} {x0_0 x1_0 x2_0 x3_0 : Value} (g : Value → Value → Value → Value → Value) (ho : o.op = .build t #[(i0, a0), (i1, a1), (i2, a2), (i3, a3)]) (h0 : F.ev a0 = some x0_0) (h1 : F.ev a1 = some x1_0) (h2 : F.ev a2 = some x2_0) (h3 : F.ev a3 = some x3_0) (hr : ∀ w, (Instr.build t #[(i0, x0_0), (i1, x1_0), (i2, x2_0), (i3, x3_0)]).run C.P w = .ok (g x0_0 x1_0 x2_0 x3_0) w) : Still C o F L (g x0_0 x1_0 x2_0 x3_0) :=
  Still.build (vs := #[(i0, x0_0), (i1, x1_0), (i2, x2_0), (i3, x3_0)]) ho (by simp only [List.map_cons, List.map_nil, h0, h1, h2, h3]) hr

theorem Still.build_2_2 {t : TypeId} {i0 i1 : Nat} {a0 a1 : Operand} {x0_0 x0_1 x1_0 x1_1 : Value} (g : Value → Value → Value → Value → Value) (ho : o.op = .build t #[(i0, a0), (i1, a1)]) (h0 : F.ev a0 = some (.agg #[x0_0, x0_1])) (h1 : F.ev a1 = some (.agg #[x1_0, x1_1])) (hr : ∀ w, (Instr.build t #[(i0, (.agg #[x0_0, x0_1])), (i1, (.agg #[x1_0, x1_1]))]).run C.P w = .ok (g x0_0 x0_1 x1_0 x1_1) w) : Still C o F L (g x0_0 x0_1 x1_0 x1_1) :=
  Still.build (vs := #[(i0, (.agg #[x0_0, x0_1])), (i1, (.agg #[x1_0, x1_1]))]) ho (by simp only [List.map_cons, List.map_nil, h0, h1]) hr

theorem Still.build_4_1 {t : TypeId} {i0 i1 : Nat} {a0 a1 : Operand} {x0_0 x0_1 x0_2 x0_3 x1_0 : Value} (g : Value → Value → Value → Value → Value → Value) (ho : o.op = .build t #[(i0, a0), (i1, a1)]) (h0 : F.ev a0 = some (.agg #[x0_0, x0_1, x0_2, x0_3])) (h1 : F.ev a1 = some x1_0) (hr : ∀ w, (Instr.build t #[(i0, (.agg #[x0_0, x0_1, x0_2, x0_3])), (i1, x1_0)]).run C.P w = .ok (g x0_0 x0_1 x0_2 x0_3 x1_0) w) : Still C o F L (g x0_0 x0_1 x0_2 x0_3 x1_0) :=
  Still.build (vs := #[(i0, (.agg #[x0_0, x0_1, x0_2, x0_3])), (i1, x1_0)]) ho (by simp only [List.map_cons, List.map_nil, h0, h1]) hr

theorem Still.build_1_4 {t : TypeId} {i0 i1 : Nat} {a0 a1 : Operand} {x0_0 x1_0 x1_1 x1_2 x1_3 : Value} (g : Value → Value → Value → Value → Value → Value) (ho : o.op = .build t #[(i0, a0), (i1, a1)]) (h0 : F.ev a0 = some x0_0) (h1 : F.ev a1 = some (.agg #[x1_0, x1_1, x1_2, x1_3])) (hr : ∀ w, (Instr.build t #[(i0, x0_0), (i1, (.agg #[x1_0, x1_1, x1_2, x1_3]))]).run C.P w = .ok (g x0_0 x1_0 x1_1 x1_2 x1_3) w) : Still C o F L (g x0_0 x1_0 x1_1 x1_2 x1_3) :=
  Still.build (vs := #[(i0, x0_0), (i1, (.agg #[x1_0, x1_1, x1_2, x1_3]))]) ho (by simp only [List.map_cons, List.map_nil, h0, h1]) hr

theorem Still.build_2_1 {t : TypeId} {i0 i1 : Nat} {a0 a1 : Operand} {x0_0 x0_1 x1_0 : Value} (g : Value → Value → Value → Value) (ho : o.op = .build t #[(i0, a0), (i1, a1)]) (h0 : F.ev a0 = some (.agg #[x0_0, x0_1])) (h1 : F.ev a1 = some x1_0) (hr : ∀ w, (Instr.build t #[(i0, (.agg #[x0_0, x0_1])), (i1, x1_0)]).run C.P w = .ok (g x0_0 x0_1 x1_0) w) : Still C o F L (g x0_0 x0_1 x1_0) :=
  Still.build (vs := #[(i0, (.agg #[x0_0, x0_1])), (i1, x1_0)]) ho (by simp only [List.map_cons, List.map_nil, h0, h1]) hr

theorem Still.build_1_2 {t : TypeId} {i0 i1 : Nat} {a0 a1 : Operand} {x0_0 x1_0 x1_1 : Value} (g : Value → Value → Value → Value) (ho : o.op = .build t #[(i0, a0), (i1, a1)]) (h0 : F.ev a0 = some x0_0) (h1 : F.ev a1 = some (.agg #[x1_0, x1_1])) (hr : ∀ w, (Instr.build t #[(i0, x0_0), (i1, (.agg #[x1_0, x1_1]))]).run C.P w = .ok (g x0_0 x1_0 x1_1) w) : Still C o F L (g x0_0 x1_0 x1_1) :=
  Still.build (vs := #[(i0, x0_0), (i1, (.agg #[x1_0, x1_1]))]) ho (by simp only [List.map_cons, List.map_nil, h0, h1]) hr

theorem Still.build_1_1_1_1_1 {t : TypeId} {i0 i1 i2 i3 i4 : Nat} {a0 a1 a2 a3 a4 : Operand} {x0_0 x1_0 x2_0 x3_0 x4_0 : Value} (g : Value → Value → Value → Value → Value → Value) (ho : o.op = .build t #[(i0, a0), (i1, a1), (i2, a2), (i3, a3), (i4, a4)]) (h0 : F.ev a0 = some x0_0) (h1 : F.ev a1 = some x1_0) (h2 : F.ev a2 = some x2_0) (h3 : F.ev a3 = some x3_0) (h4 : F.ev a4 = some x4_0) (hr : ∀ w, (Instr.build t #[(i0, x0_0), (i1, x1_0), (i2, x2_0), (i3, x3_0), (i4, x4_0)]).run C.P w = .ok (g x0_0 x1_0 x2_0 x3_0 x4_0) w) : Still C o F L (g x0_0 x1_0 x2_0 x3_0 x4_0) :=
  Still.build (vs := #[(i0, x0_0), (i1, x1_0), (i2, x2_0), (i3, x3_0), (i4, x4_0)]) ho (by simp only [List.map_cons, List.map_nil, h0, h1, h2, h3, h4]) hr

theorem Still.build_4 {t : TypeId} {i0 : Nat} {a0 : Operand} {x0_0 x0_1 x0_2 x0_3 : Value} (g : Value → Value → Value → Value → Value) (ho : o.op = .build t #[(i0, a0)]) (h0 : F.ev a0 = some (.agg #[x0_0, x0_1, x0_2, x0_3])) (hr : ∀ w, (Instr.build t #[(i0, (.agg #[x0_0, x0_1, x0_2, x0_3]))]).run C.P w = .ok (g x0_0 x0_1 x0_2 x0_3) w) : Still C o F L (g x0_0 x0_1 x0_2 x0_3) :=
  Still.build (vs := #[(i0, (.agg #[x0_0, x0_1, x0_2, x0_3]))]) ho (by simp only [List.map_cons, List.map_nil, h0]) hr

theorem Still.build_2 {t : TypeId} {i0 : Nat} {a0 : Operand} {x0_0 x0_1 : Value} (g : Value → Value → Value) (ho : o.op = .build t #[(i0, a0)]) (h0 : F.ev a0 = some (.agg #[x0_0, x0_1])) (hr : ∀ w, (Instr.build t #[(i0, (.agg #[x0_0, x0_1]))]).run C.P w = .ok (g x0_0 x0_1) w) : Still C o F L (g x0_0 x0_1) :=
  Still.build (vs := #[(i0, (.agg #[x0_0, x0_1]))]) ho (by simp only [List.map_cons, List.map_nil, h0]) hr

theorem Still.build_5 {t : TypeId} {i0 : Nat} {a0 : Operand} {x0_0 x0_1 x0_2 x0_3 x0_4 : Value} (g : Value → Value → Value → Value → Value → Value) (ho : o.op = .build t #[(i0, a0)]) (h0 : F.ev a0 = some (.agg #[x0_0, x0_1, x0_2, x0_3, x0_4])) (hr : ∀ w, (Instr.build t #[(i0, (.agg #[x0_0, x0_1, x0_2, x0_3, x0_4]))]).run C.P w = .ok (g x0_0 x0_1 x0_2 x0_3 x0_4) w) : Still C o F L (g x0_0 x0_1 x0_2 x0_3 x0_4) :=
  Still.build (vs := #[(i0, (.agg #[x0_0, x0_1, x0_2, x0_3, x0_4]))]) ho (by simp only [List.map_cons, List.map_nil, h0]) hr

theorem Still.build_2_1_1 {t : TypeId} {i0 i1 i2 : Nat} {a0 a1 a2 : Operand} {x0_0 x0_1 x1_0 x2_0 : Value} (g : Value → Value → Value → Value → Value) (ho : o.op = .build t #[(i0, a0), (i1, a1), (i2, a2)]) (h0 : F.ev a0 = some (.agg #[x0_0, x0_1])) (h1 : F.ev a1 = some x1_0) (h2 : F.ev a2 = some x2_0) (hr : ∀ w, (Instr.build t #[(i0, (.agg #[x0_0, x0_1])), (i1, x1_0), (i2, x2_0)]).run C.P w = .ok (g x0_0 x0_1 x1_0 x2_0) w) : Still C o F L (g x0_0 x0_1 x1_0 x2_0) :=
  Still.build (vs := #[(i0, (.agg #[x0_0, x0_1])), (i1, x1_0), (i2, x2_0)]) ho (by simp only [List.map_cons, List.map_nil, h0, h1, h2]) hr

theorem Still.build_1_1_1_1_1_1 {t : TypeId} {i0 i1 i2 i3 i4 i5 : Nat} {a0 a1 a2 a3 a4 a5 : Operand} {x0_0 x1_0 x2_0 x3_0 x4_0 x5_0 : Value} (g : Value → Value → Value → Value → Value → Value → Value) (ho : o.op = .build t #[(i0, a0), (i1, a1), (i2, a2), (i3, a3), (i4, a4), (i5, a5)]) (h0 : F.ev a0 = some x0_0) (h1 : F.ev a1 = some x1_0) (h2 : F.ev a2 = some x2_0) (h3 : F.ev a3 = some x3_0) (h4 : F.ev a4 = some x4_0) (h5 : F.ev a5 = some x5_0) (hr : ∀ w, (Instr.build t #[(i0, x0_0), (i1, x1_0), (i2, x2_0), (i3, x3_0), (i4, x4_0), (i5, x5_0)]).run C.P w = .ok (g x0_0 x1_0 x2_0 x3_0 x4_0 x5_0) w) : Still C o F L (g x0_0 x1_0 x2_0 x3_0 x4_0 x5_0) :=
  Still.build (vs := #[(i0, x0_0), (i1, x1_0), (i2, x2_0), (i3, x3_0), (i4, x4_0), (i5, x5_0)]) ho (by simp only [List.map_cons, List.map_nil, h0, h1, h2, h3, h4, h5]) hr

theorem Still.build_5_1 {t : TypeId} {i0 i1 : Nat} {a0 a1 : Operand} {x0_0 x0_1 x0_2 x0_3 x0_4 x1_0 : Value} (g : Value → Value → Value → Value → Value → Value → Value) (ho : o.op = .build t #[(i0, a0), (i1, a1)]) (h0 : F.ev a0 = some (.agg #[x0_0, x0_1, x0_2, x0_3, x0_4])) (h1 : F.ev a1 = some x1_0) (hr : ∀ w, (Instr.build t #[(i0, (.agg #[x0_0, x0_1, x0_2, x0_3, x0_4])), (i1, x1_0)]).run C.P w = .ok (g x0_0 x0_1 x0_2 x0_3 x0_4 x1_0) w) : Still C o F L (g x0_0 x0_1 x0_2 x0_3 x0_4 x1_0) :=
  Still.build (vs := #[(i0, (.agg #[x0_0, x0_1, x0_2, x0_3, x0_4])), (i1, x1_0)]) ho (by simp only [List.map_cons, List.map_nil, h0, h1]) hr

theorem Still.build_1_5 {t : TypeId} {i0 i1 : Nat} {a0 a1 : Operand} {x0_0 x1_0 x1_1 x1_2 x1_3 x1_4 : Value} (g : Value → Value → Value → Value → Value → Value → Value) (ho : o.op = .build t #[(i0, a0), (i1, a1)]) (h0 : F.ev a0 = some x0_0) (h1 : F.ev a1 = some (.agg #[x1_0, x1_1, x1_2, x1_3, x1_4])) (hr : ∀ w, (Instr.build t #[(i0, x0_0), (i1, (.agg #[x1_0, x1_1, x1_2, x1_3, x1_4]))]).run C.P w = .ok (g x0_0 x1_0 x1_1 x1_2 x1_3 x1_4) w) : Still C o F L (g x0_0 x1_0 x1_1 x1_2 x1_3 x1_4) :=
  Still.build (vs := #[(i0, x0_0), (i1, (.agg #[x1_0, x1_1, x1_2, x1_3, x1_4]))]) ho (by simp only [List.map_cons, List.map_nil, h0, h1]) hr

theorem Still.build_4_4 {t : TypeId} {i0 i1 : Nat} {a0 a1 : Operand} {x0_0 x0_1 x0_2 x0_3 x1_0 x1_1 x1_2 x1_3 : Value} (g : Value → Value → Value → Value → Value → Value → Value → Value → Value) (ho : o.op = .build t #[(i0, a0), (i1, a1)]) (h0 : F.ev a0 = some (.agg #[x0_0, x0_1, x0_2, x0_3])) (h1 : F.ev a1 = some (.agg #[x1_0, x1_1, x1_2, x1_3])) (hr : ∀ w, (Instr.build t #[(i0, (.agg #[x0_0, x0_1, x0_2, x0_3])), (i1, (.agg #[x1_0, x1_1, x1_2, x1_3]))]).run C.P w = .ok (g x0_0 x0_1 x0_2 x0_3 x1_0 x1_1 x1_2 x1_3) w) : Still C o F L (g x0_0 x0_1 x0_2 x0_3 x1_0 x1_1 x1_2 x1_3) :=
  Still.build (vs := #[(i0, (.agg #[x0_0, x0_1, x0_2, x0_3])), (i1, (.agg #[x1_0, x1_1, x1_2, x1_3]))]) ho (by simp only [List.map_cons, List.map_nil, h0, h1]) hr

theorem Still.build_4_4_4_4 {t : TypeId} {i0 i1 i2 i3 : Nat} {a0 a1 a2 a3 : Operand} {x0_0 x0_1 x0_2 x0_3 x1_0 x1_1 x1_2 x1_3 x2_0 x2_1 x2_2 x2_3 x3_0 x3_1 x3_2 x3_3 : Value} (g : Value → Value → Value → Value → Value → Value → Value → Value → Value → Value → Value → Value → Value → Value → Value → Value → Value) (ho : o.op = .build t #[(i0, a0), (i1, a1), (i2, a2), (i3, a3)]) (h0 : F.ev a0 = some (.agg #[x0_0, x0_1, x0_2, x0_3])) (h1 : F.ev a1 = some (.agg #[x1_0, x1_1, x1_2, x1_3])) (h2 : F.ev a2 = some (.agg #[x2_0, x2_1, x2_2, x2_3])) (h3 : F.ev a3 = some (.agg #[x3_0, x3_1, x3_2, x3_3])) (hr : ∀ w, (Instr.build t #[(i0, (.agg #[x0_0, x0_1, x0_2, x0_3])), (i1, (.agg #[x1_0, x1_1, x1_2, x1_3])), (i2, (.agg #[x2_0, x2_1, x2_2, x2_3])), (i3, (.agg #[x3_0, x3_1, x3_2, x3_3]))]).run C.P w = .ok (g x0_0 x0_1 x0_2 x0_3 x1_0 x1_1 x1_2 x1_3 x2_0 x2_1 x2_2 x2_3 x3_0 x3_1 x3_2 x3_3) w) : Still C o F L (g x0_0 x0_1 x0_2 x0_3 x1_0 x1_1 x1_2 x1_3 x2_0 x2_1 x2_2 x2_3 x3_0 x3_1 x3_2 x3_3) :=
  Still.build (vs := #[(i0, (.agg #[x0_0, x0_1, x0_2, x0_3])), (i1, (.agg #[x1_0, x1_1, x1_2, x1_3])), (i2, (.agg #[x2_0, x2_1, x2_2, x2_3])), (i3, (.agg #[x3_0, x3_1, x3_2, x3_3]))]) ho (by simp only [List.map_cons, List.map_nil, h0, h1, h2, h3]) hr

end builds
end Go.V
