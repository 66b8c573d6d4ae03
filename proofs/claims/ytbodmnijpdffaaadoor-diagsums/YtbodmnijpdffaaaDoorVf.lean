/- The proof layer, part f: slices that the call owns, read and written without opening them; rows of slices. -/
import Derived.Test.YtbodmnijpdffaaaDoorVa
import Derived.ChangeKeysEq
import Derived.MapKept
namespace Go.V
open Go
def vaddr : Value → Addr
  | .slice (some a) _ _ => a
  | _ => ⟨0, 0, none⟩
theorem own_addr {w : World} {e k n : Nat} {v : Value} {xs : List Value} (h : w.ownsRow 0 e k v n xs) (hn : 0 < n) :
    ∃ g cap cur, v = .slice (some ⟨g, 0, none⟩) n cap ∧ w.heap[g]? = some (.cells cur e (0, 0)) ∧ cur.size = cap * k ∧ n ≤ cap ∧ cur.toList.take (n * k) = xs := by
  rcases h.2 with ⟨_, h0⟩ | ⟨g, cap, cur, hv, _, hg, hnc, _, hcs, ht⟩
  · omega
  · exact ⟨g, cap, cur, hv, hg, hcs, hnc, ht⟩
theorem own_at {w : World} {e k n : Nat} {v u : Value} {xs : List Value} {j : Nat} (h : w.ownsRow 0 e k v n xs) (hj : xs[j]? = some u) : w.cell? ((vaddr v).add j) = some u := by
  rcases h.2 with ⟨_, h0⟩ | ⟨g, cap, cur, hv, _, hg, hnc, _, hcs, ht⟩
  · have := h.1
    rw [h0] at this
    have hx : xs = [] := List.eq_nil_of_length_eq_zero (by simpa using this)
    rw [hx] at hj; simp at hj
  · subst hv
    show w.cell? ((⟨g, 0, none⟩ : Addr).add j) = some u
    rw [add_new, Nat.zero_add]
    refine cell_of_obj hg ?_
    rw [← ht] at hj
    rw [List.getElem?_take] at hj
    split at hj
    · simpa using hj
    · cases hj
theorem own_at2 {w : World} {e k n : Nat} {v u : Value} {xs : List Value} {i j : Nat} (h : w.ownsRow 0 e k v n xs) (hj : xs[i + j]? = some u) : w.cell? (((vaddr v).add i).add j) = some u := by
  rw [add_add]; exact own_at h hj
theorem own_at3 {w : World} {e k n : Nat} {v u : Value} {xs : List Value} {i j l : Nat} (h : w.ownsRow 0 e k v n xs) (hj : xs[i + j + l]? = some u) : w.cell? ((((vaddr v).add i).add j).add l) = some u := by
  rw [add_add, add_add, ← Nat.add_assoc]; exact own_at h hj
theorem own_cells {w : World} {e k n : Nat} {v : Value} {xs us : List Value} {i : Nat} (h : w.ownsRow 0 e k v n xs) (hj : ∀ j u, us[j]? = some u → xs[i + j]? = some u) : Cells w ((vaddr v).add i) us := fun j u hu => own_at2 h (hj j u hu)
theorem own_cells2 {w : World} {e k n : Nat} {v : Value} {xs us : List Value} {i l : Nat} (h : w.ownsRow 0 e k v n xs) (hj : ∀ j u, us[j]? = some u → xs[i + l + j]? = some u) : Cells w (((vaddr v).add i).add l) us := fun j u hu => own_at3 h (hj j u hu)
theorem own_all {w : World} {e k n : Nat} {v : Value} {xs : List Value} (h : w.ownsRow 0 e k v n xs) : Cells w (vaddr v) xs := fun _ _ hu => own_at h hu
theorem Sym.own {w0 w : World} {S : Nat → Prop} {L : List HL} (hs : Sym w0 S L w) {i e k n : Nat} {v : Value} {xs : List Value} (hi : L[i]? = some (HL.own e k v n xs)) : w.ownsRow 0 e k v n xs := hs.at hi
section own
variable {C : Cx} {F : Fr} {L : List HL} {o : Oper}
theorem Still.max {x y : Operand} {ts : Array TypeId} {k : IntKind} {i j : Int} (ho : o.op = .call { callee := .builtin .max, args := #[x, y], argTypes := ts }) (hx : F.ev x = some (.int k i)) (hy : F.ev y = some (.int k j)) : Still C o F L (.int k (max i j)) :=
  ⟨fun c h => (by rw [ho] at h; cases h), fun a w ok => by
    obtain ⟨d, op, ty, ps, af, g⟩ := o; subst ho
    rw [BigFrame.execOp_builtin, BigFrame.builtin_max]
    have e : (if j > i then j else i) = max i j := by omega
    simp [ok.fr.ev hx, ok.fr.ev hy, run_max_int2]
    exact e⟩
theorem Still.lenOwn {x : Operand} {t e k n : Nat} {v : Value} {xs : List Value} (ho : o.op = .call { callee := .builtin .len, args := #[x], argTypes := #[t] }) (hx : F.ev x = some v) (ht : C.P.underlying t = some (.slice (C.P.elem t)))
    (hown : ∀ w, Sym C.w0 C.S L w → w.ownsRow 0 e k v n xs) : Still C o F L (.int .i64 n) :=
  ⟨fun c h => (by rw [ho] at h; cases h), fun a w ok => by
    obtain ⟨d, op, ty, ps, af, g⟩ := o; subst ho
    rw [BigFrame.execOp_builtin, BigFrame.builtin_len]
    rcases (hown w ok.sym).2 with ⟨hv, h0⟩ | ⟨g, cap, cur, hv, _⟩
    · simp [ok.fr.ev hx, hv, h0, run_len_slice w _ _ _ _ _ ht, goInt]
    · simp [ok.fr.ev hx, hv, run_len_slice w _ _ _ _ _ ht, goInt]⟩
theorem Still.indexOwnI {t e et : TypeId} {x ix : Operand} {v : Value} {xs : List Value} {n k : Nat} {kd : IntKind} {i : Int} {m : Nat} (ho : o.op = .indexAddr t x ix) (hx : F.ev x = some v) (hi : F.ev ix = some (.int kd i))
    (ht : C.P.underlying t = some (.slice et)) (hz : ∀ w, (sizeOf et).run C.P w = .ok k w) (hown : ∀ w, Sym C.w0 C.S L w → w.ownsRow 0 e k v n xs) (hm : i = (m : Int)) (hb : m < n) : Still C o F L (.pointer (some ((vaddr v).add (m * k)))) :=
  ⟨fun c h => (by rw [ho] at h; cases h), fun a w ok => by
    obtain ⟨g, cap, cur, hv, _⟩ := own_addr (hown w ok.sym) (by omega)
    subst hv; subst hm
    exact (Still.indexSliceN (L := L) ho hx hi ht hz rfl hb).2 a w ok⟩
theorem Still.indexOwn {t e et : TypeId} {x ix : Operand} {v : Value} {xs : List Value} {n k : Nat} {kd : IntKind} {m : Nat} (ho : o.op = .indexAddr t x ix) (hx : F.ev x = some v) (hi : F.ev ix = some (.int kd (m : Int)))
    (ht : C.P.underlying t = some (.slice et)) (hz : ∀ w, (sizeOf et).run C.P w = .ok k w) (hown : ∀ w, Sym C.w0 C.S L w → w.ownsRow 0 e k v n xs) (hb : m < n) : Still C o F L (.pointer (some ((vaddr v).add (m * k)))) :=
  Still.indexOwnI ho hx hi ht hz hown rfl hb
theorem own_store {w w' : World} {e k n : Nat} {v : Value} {xs xs' : List Value} {j : Nat} {us : List Value} (h : w.ownsRow 0 e k v n xs) (hn : j + us.length ≤ xs.length) (hx : ∀ i, xs'[i]? = if j ≤ i ∧ i < j + us.length then us[i - j]? else xs[i]?)
    (hw : ∀ cur t fz, w.heap[(vaddr v).block]? = some (.cells cur t fz) → w'.heap[(vaddr v).block]? = some (.cells (putAll cur ((vaddr v).off + j) us) t fz)) (hlen : us ≠ []) : w'.ownsRow 0 e k v n xs' := by
  have hxl : xs'.length = xs.length := by
    apply Nat.le_antisymm
    · have := hx xs.length
      rw [List.getElem?_eq_none (Nat.le_refl _)] at this
      have h2 : xs'[xs.length]? = none := by rw [this]; split <;> simp_all <;> omega
      simpa using h2
    · rcases Nat.lt_or_ge xs'.length xs.length with h1 | h1
      · exfalso
        have h2 := hx xs'.length
        rw [List.getElem?_eq_none (Nat.le_refl _)] at h2
        split at h2
        · rename_i hc
          have : xs'.length - j < us.length := by omega
          simp [List.getElem?_eq_getElem this] at h2
        · simp [List.getElem?_eq_getElem h1] at h2
      · exact h1
  have hul : 0 < us.length := by cases us <;> simp_all
  refine ⟨by rw [hxl]; exact h.1, ?_⟩
  rcases h.2 with ⟨hv, h0⟩ | ⟨g, cap, cur, hv, hg0, hg, hnc, hcm, hcs, ht⟩
  · have := h.1; rw [h0] at this; omega
  · subst hv
    refine .inr ⟨g, cap, _, rfl, hg0, hw cur e (0, 0) hg, hnc, hcm, by rw [size_putAll]; exact hcs, ?_⟩
    simp only [vaddr, Nat.zero_add]
    -- the cells behind a store, one by one
    have key : ∀ (us : List Value) (cur : Array Value) (j i : Nat), j + us.length ≤ cur.size → (putAll cur j us)[i]? = if j ≤ i ∧ i < j + us.length then us[i - j]? else cur[i]? := by
      intro us
      induction us with
      | nil => intro cur j i _; simp [putAll]; intro h1 h2; omega
      | cons u us ih =>
        intro cur j i hj
        simp only [List.length_cons] at hj
        rw [putAll, ih _ _ _ (by rw [Array.size_setIfInBounds]; omega)]
        by_cases h1 : i = j
        · subst h1
          rw [if_neg (by omega), if_pos (by simp)]
          simp [show i < cur.size by omega]
        · by_cases h2 : j + 1 ≤ i ∧ i < j + 1 + us.length
          · rw [if_pos h2, if_pos (by simp; omega)]
            rw [show i - j = (i - (j + 1)) + 1 by omega, List.getElem?_cons_succ]
          · rw [if_neg h2, if_neg (by simp; omega)]
            rw [Array.getElem?_setIfInBounds_ne (by omega)]
    have hlx : xs.length ≤ cur.size := by rw [h.1, hcs]; exact Nat.mul_le_mul_right _ hnc
    apply List.ext_getElem?
    intro i
    rw [hx i, List.getElem?_take]
    by_cases hi : i < n * k
    · rw [if_pos hi]
      have := key us cur j i (by omega)
      simp only [Array.getElem?_toList]
      rw [this]
      split
      · rfl
      · rw [← ht, List.getElem?_take, if_pos hi]; simp
    · rw [if_neg hi]
      have h1 := h.1
      rw [if_neg (by omega), List.getElem?_eq_none (by omega)]
/-- A store into an owned slice; the new contents are told. -/
theorem Does.storeOwn {t : TypeId} {x y : Operand} {i e k n m : Nat} {v u : Value} {xs xs' : List Value} {A : Addr} {j : Nat} (ho : o.op = .store t x y) (hx : F.ev x = some (.pointer (some A))) (hA : A = (vaddr v).add j) (hy : F.ev y = some u)
    (hi : L[i]? = some (HL.own e k v n xs)) (hz : ∀ w, (sizeOf t).run C.P w = .ok m w) (hm : u.cells.size = m) (h0 : 0 < m) (h1 : u.cells.toList.all Value.oneCell' = true) (hj : j + m ≤ xs.length)
    (hxs : ∀ i, xs'[i]? = if j ≤ i ∧ i < j + m then u.cells.toList[i - j]? else xs[i]?) : Does C o F L (fun _ : Unit => True) (fun _ => undef) (fun _ => L.set i (HL.own e k v n xs')) := fun a w ok next Q h => by
  have hown : w.ownsRow 0 e k v n xs := ok.sym.at hi
  have hn : 0 < n := by
    rcases Nat.eq_zero_or_pos n with h2 | h2
    · have := hown.1; rw [h2] at this; omega
    · exact h2
  obtain ⟨g, cap, cur, hv, hg, hcs, hnc, htk⟩ := own_addr hown hn
  have hlx : xs.length ≤ cur.size := by rw [hown.1, hcs]; exact Nat.mul_le_mul_right _ hnc
  have hAg : A = ⟨g, j, none⟩ := by rw [hA, hv]; show (⟨g, 0, none⟩ : Addr).add j = _; rw [add_new, Nat.zero_add]
  have hul : u.cells.toList.length = m := by simpa using hm
  obtain ⟨w', hr, hh, hold, hsz⟩ := run_storeCells_own (P := C.P) u.cells.toList 0 j cur w hg (by rw [hul]; omega) (List.all_eq_true.1 h1)
  simp only [Nat.add_zero] at hh
  refine wpIn_skip' (fun c h => (by rw [ho] at h; cases h)) (w' := w') ?_ (h () w' trivial ?_)
  · simp only [execOp, ho, ok.fr.ev hx, ok.fr.ev hy, hAg]
    simp [Instr.storeAt, Instr.sureAddr, storeVar, hm, hz, hr]
  · have hvb : v.ownBlock = some g := by rw [hv]; rfl
    refine ok.sym.turn hi (fun c hc => ⟨.inl hc, ?_⟩) (hold.mono (fun c _ hc => by subst hc; exact hvb)) ?_
    · have e1 : some c = some g := (show v.ownBlock = some c from hc).symm.trans hvb
      cases e1; rw [hsz]; exact (hown.lt g hvb).2
    · refine own_store (us := u.cells.toList) hown (by rw [hul]; exact hj) (by rw [hul]; exact hxs) ?_ (by intro h2; rw [h2] at hul; simp at hul; omega)
      intro cur' t' fz' hc'
      rw [hv] at hc' ⊢
      simp only [vaddr] at hc' ⊢
      rw [hg] at hc'; cases hc'
      simpa using hh
theorem set_get {xs : List Value} {j : Nat} {u : Value} (hj : j < xs.length) : ∀ i, (xs.set j u)[i]? = if j ≤ i ∧ i < j + 1 then [u][i - j]? else xs[i]? := fun i => by
  rw [List.getElem?_set]
  by_cases h : j = i
  · subst h; simp [hj]
  · rw [if_neg h, if_neg (by omega)]
/-- One cell. -/
theorem Does.storeOwn1 {t : TypeId} {x y : Operand} {i e k n : Nat} {v u : Value} {xs xs' : List Value} {A : Addr} {j : Nat} (ho : o.op = .store t x y) (hx : F.ev x = some (.pointer (some A))) (hA : A = (vaddr v).add j) (hy : F.ev y = some u)
    (hi : L[i]? = some (HL.own e k v n xs)) (hz : ∀ w, (sizeOf t).run C.P w = .ok 1 w) (h1 : u.oneCell' = true) (hj : j < xs.length) (hxs : xs.set j u = xs') : Does C o F L (fun _ : Unit => True) (fun _ => undef) (fun _ => L.set i (HL.own e k v n xs')) := by
  have hc : u.cells = #[u] := by cases u <;> first | rfl | cases h1
  refine Does.storeOwn ho hx hA hy hi hz (by simp [hc]) (by omega) (by simp [hc, h1]) (by omega) ?_
  rw [hc, ← hxs]; exact set_get hj
/-- make: owned from the first. -/
theorem Sym.obj_own {w0 w : World} {S : Nat → Prop} {L : List HL} {b e n k : Nat} {cs : Array Value} (hs : Sym w0 S (HL.obj b (.cells cs e (0, 0)) :: L) w) (hc : cs.size = n * k) (hm : n ≤ 9223372036854775807) : Sym w0 S (HL.own e k (.slice (some ⟨b, 0, none⟩) n n) n cs.toList :: L) w :=
  hs.weaken (fun h => own_of_obj h hc hm) (fun c hc => by
    have e1 : some b = some c := hc
    cases e1; rfl)
theorem size_zeros (n : Nat) (zs : List Value) : (zeros n zs).size = n * zs.length := by simp [zeros]
theorem Grows.make {t e : TypeId} {x y : Operand} {n size bytes : Nat} {k k' : IntKind} {z : Value} {xs : List Value} (ho : o.op = .makeSlice t x y) (hx : F.ev x = some (.int k (n : Int))) (hy : F.ev y = some (.int k' (n : Int)))
    (ht : C.P.underlying t = some (.slice e)) (hi : (C.P.info? e).map (fun i => (i.zero, i.size, i.bytes)) = some (some z, size, bytes)) (hzs : z.cells.size = size) (hb : bytes * n ≤ 281474976710656) (hn : n ≤ 9223372036854775807) (hxs : (zeros n z.cells.toList).toList = xs) :
    Grows C o F L (fun _ : Nat => True) (fun b => .slice (some ⟨b, 0, none⟩) n n) (fun b => [HL.own e size (.slice (some ⟨b, 0, none⟩) n n) n xs]) := fun a w ok next Q h =>
  Grows.makeSlice ho hx hy ht hi hzs hb hn a w ok next Q fun g w' hφ hold hs => h g w' hφ hold (by subst hxs; exact Sym.obj_own hs (by rw [size_zeros]; simp [hzs]) hn)
theorem zeros_one (n : Nat) (z : Value) : (zeros n [z]).toList = List.replicate n z := by simp [zeros]
/-- append of one element, or several, told by the new contents. -/
theorem Does.appendTo {t e ty : TypeId} {x y : Operand} {i n k m c bytes n' : Nat} {v z : Value} {xs news xs' : List Value} {A : Addr} (ho : o.op = .call { callee := .builtin .append, args := #[x, y], argTypes := #[t, t] }) (hty : o.type = ty)
    (hx : F.ev x = some v) (hy : F.ev y = some (.slice (some A) m c)) (hi : L[i]? = some (HL.own e k v n xs)) (ht : C.P.underlying t = some (.slice e))
    (hinf : (C.P.info? e).map (fun i => (i.zero, i.size, i.bytes)) = some (some z, k, bytes)) (hzs : z.cells.size = k) (hk : Nat.blt 0 k = true)
    (hnews : ∀ w, Sym C.w0 C.S L w → Cells w A news) (hl : news.length = m * k) (h1 : news.all Value.oneCell' = true) (hb : (n + m) * bytes ≤ 140737488355328) (hm : n + m ≤ 9223372036854775807) (hn' : n + m = n') (hxs : xs ++ news = xs') :
    Does C o F L (fun v' : Value => v' = .slice none 0 0 ↔ v = .slice none 0 0 ∧ m = 0) (fun v' => v') (fun v' => L.set i (HL.own e k v' n' xs')) := by
  subst hn'; subst hxs
  exact Does.append ho hty hx hy hi ht hinf hzs (by simpa using hk) hnews hl (List.all_eq_true.1 h1) hb hm
end own
/-! ### Lists of ints; lists of structs -/
def ints (xs : List Int) : List Value := xs.map iv'
where iv' (n : Int) : Value := .int .i64 n
theorem ints_get {xs : List Int} {m : Nat} {y : Int} (h : xs[m]? = some y) : (ints xs)[m * 1]? = some (.int .i64 y) := by simp [ints, ints.iv', h]
theorem ints_get' {xs : List Int} {m : Nat} {y : Int} (h : xs[m]? = some y) : (ints xs)[m]? = some (.int .i64 y) := by simp [ints, ints.iv', h]
@[simp] theorem length_ints (xs : List Int) : (ints xs).length = xs.length := by simp [ints]
theorem ints_set (xs : List Int) (m : Nat) (y : Int) : (ints xs).set (m * 1) (.int .i64 y) = ints (xs.set m y) := by simp [ints, ints.iv', List.map_set]
theorem ints_append (xs ys : List Int) : ints (xs ++ ys) = ints xs ++ ints ys := by simp [ints]
theorem ints_snoc (xs : List Int) (y : Int) : ints xs ++ [.int .i64 y] = ints (xs ++ [y]) := by simp [ints, ints.iv']
theorem ints_replicate (n : Nat) (y : Int) : List.replicate n (.int .i64 y) = ints (List.replicate n y) := by simp [ints, ints.iv']
theorem ints_one (l : List Int) : (ints l).all Value.oneCell' = true := by simp [ints, ints.iv', List.all_eq_true, Value.oneCell']
theorem flat_get {α : Type} {enc : α → List Value} {k : Nat} (hk : ∀ x, (enc x).length = k) : ∀ {ys : List α} {m : Nat} {y : α} {j : Nat} {u : Value}, ys[m]? = some y → (enc y)[j]? = some u → (ys.flatMap enc)[m * k + j]? = some u
  | [], m, y, j, u, h, _ => by simp at h
  | y0 :: r, 0, y, j, u, h, hj => by
    simp at h; subst h
    have hj' : j < (enc y0).length := (List.getElem?_eq_some_iff.1 hj).1
    rw [List.flatMap_cons, List.getElem?_append_left (by omega)]
    simpa using hj
  | y0 :: r, m + 1, y, j, u, h, hj => by
    rw [List.flatMap_cons, List.getElem?_append_right (by rw [hk, Nat.succ_mul]; omega)]
    have := flat_get hk (ys := r) (m := m) (by simpa using h) hj
    rw [hk]
    rwa [show (m + 1) * k + j - k = m * k + j by rw [Nat.succ_mul]; omega]
theorem flat_len {α : Type} {enc : α → List Value} {k : Nat} (hk : ∀ x, (enc x).length = k) (ys : List α) : (ys.flatMap enc).length = ys.length * k := by
  induction ys with
  | nil => simp
  | cons y r ih => rw [List.flatMap_cons, List.length_append, ih, hk, List.length_cons, Nat.succ_mul]; omega
theorem flat_get_inv {α : Type} {enc : α → List Value} {k : Nat} (hk : ∀ x, (enc x).length = k) (h0 : 0 < k) (ys : List α) (i : Nat) : (ys.flatMap enc)[i]? = (ys[i / k]?).bind fun y => (enc y)[i % k]? := by
  rcases Nat.lt_or_ge (i / k) ys.length with h | h
  · obtain ⟨y, hy⟩ : ∃ y, ys[i / k]? = some y := ⟨ys[i / k], by simp [h]⟩
    rw [hy, Option.bind_some]
    have hm : i % k < (enc y).length := by rw [hk]; exact Nat.mod_lt _ h0
    have := flat_get hk hy (List.getElem?_eq_getElem hm)
    rw [Nat.mul_comm, Nat.div_add_mod] at this
    rw [this, List.getElem?_eq_getElem hm]
  · rw [List.getElem?_eq_none h, Option.bind_none, List.getElem?_eq_none]
    rw [flat_len hk]
    have := (Nat.le_div_iff_mul_le h0).1 h
    omega
theorem flat_set {α : Type} {enc : α → List Value} {k : Nat} (hk : ∀ x, (enc x).length = k) (h0 : 0 < k) {ys : List α} {m : Nat} (y : α) (hm : m < ys.length) :
    ∀ i, ((ys.set m y).flatMap enc)[i]? = if m * k ≤ i ∧ i < m * k + k then (enc y)[i - m * k]? else (ys.flatMap enc)[i]? := fun i => by
  rw [flat_get_inv hk h0, flat_get_inv hk h0, List.getElem?_set]
  have hd := Nat.div_add_mod i k
  have hml := Nat.mod_lt i h0
  by_cases e : m = i / k
  · subst e
    rw [if_pos rfl, if_pos hm, if_pos ⟨by rw [Nat.mul_comm]; omega, by rw [Nat.mul_comm]; omega⟩]
    simp only [Option.bind_some]
    congr 1
    rw [Nat.mul_comm]; omega
  · rw [if_neg e, if_neg]
    rintro ⟨h1, h2⟩
    apply e
    have := (Nat.le_div_iff_mul_le h0).2 h1
    have h3 : i / k < m + 1 := (Nat.div_lt_iff_lt_mul h0).2 (by rw [Nat.succ_mul]; omega)
    omega
/-! ### Equality of small structs and arrays of integers -/
theorem eq_int {P : Program} {t : TypeId} {k k' : IntKind} (h : P.underlying t = some (.int k')) (d : Nat) (a b : Int) (w : World) : (Op.equalIn (d + 1) t (.int k a) (.int k b)).run P w = .ok (decide (a = b)) w := by
  rw [run_equalIn_int w d t k k' a b h]; rw [Bool.beq_eq_decide_eq]
/-- Two fields of integers. -/
theorem eq_two {P : Program} {t : TypeId} {f0 f1 : Field} {k k' : IntKind} (ht : P.underlying t = some (.struct #[f0, f1])) (hp : P.stoodInHeld t = false) (h0 : P.underlying f0.type = some (.int k)) (h1 : P.underlying f1.type = some (.int k'))
    (n0 : f0.name ≠ "_") (n1 : f1.name ≠ "_") (o0 : f0.offset = 0) (o1 : f1.offset = 1) (d : Nat) (a b a' b' : Int) (w : World) :
    (Op.equalIn (d + 2) t (.agg #[.int k a, .int k' b]) (.agg #[.int k a', .int k' b'])).run P w = .ok (decide (a = a' ∧ b = b')) w := by
  have hf : P.fieldsOf t = #[f0, f1] := by simp [Program.fieldsOf, ht]
  have i0 : ∀ w, (isAgg f0.type).run P w = .ok false w := fun w => by simp [isAgg, run_underlying h0]
  have i1 : ∀ w, (isAgg f1.type).run P w = .ok false w := fun w => by simp [isAgg, run_underlying h1]
  rw [run_equalIn_struct w (d + 1) t _ _ (by rw [hf]; exact ht) hp, hf]
  simp [Op.eqFields, n0, n1, part, i0, i1, o0, o1, eq_int h0, eq_int h1]
  by_cases e0 : a = a' <;> by_cases e1 : b = b' <;> simp [e0, e1]
theorem eq_arr4 {P : Program} {t e : TypeId} {i : TypeInfo} {k : IntKind} (ht : P.underlying t = some (.array 4 e)) (he : P.underlying e = some (.int k)) (hi : P.info? e = some i) (hz : P.cellsOf e = 1) (d : Nat) (a b c f a' b' c' f' : Int) (w : World) :
    (Op.equalIn (d + 2) t (.agg #[.int k a, .int k b, .int k c, .int k f]) (.agg #[.int k a', .int k b', .int k c', .int k f'])).run P w = .ok (decide (a = a' ∧ b = b' ∧ c = c' ∧ f = f')) w := by
  have i0 : ∀ w, (isAgg e).run P w = .ok false w := fun w => by simp [isAgg, run_underlying he]
  rw [run_equalIn_array w (d + 1) _ _ ht hi, hz]
  simp only [List.range_succ, List.range_zero, List.nil_append, List.cons_append, Op.eqItems, Nat.mul_one, part, Sem.run_bind, i0, Result.andThen_ok, Bool.false_eq_true, if_false]
  simp only [List.getElem?_toArray, List.getElem?_cons_zero, List.getElem?_cons_succ, Sem.run_pure, Result.andThen_ok, eq_int he]
  by_cases e0 : a = a' <;> by_cases e1 : b = b' <;> by_cases e2 : c = c' <;> by_cases e3 : f = f' <;> simp [e0, e1, e2, e3, i0, eq_int he]
/-- An array of four integers and an integer. -/
theorem eq_five {P : Program} {t e : TypeId} {i : TypeInfo} {f0 f1 : Field} {k : IntKind} (ht : P.underlying t = some (.struct #[f0, f1])) (hp : P.stoodInHeld t = false) (h0 : P.underlying f0.type = some (.array 4 e)) (h1 : P.underlying f1.type = some (.int k))
    (he : P.underlying e = some (.int k)) (hi : P.info? e = some i) (hz : P.cellsOf e = 1) (hz4 : ∀ w, (sizeOf f0.type).run P w = .ok 4 w)
    (n0 : f0.name ≠ "_") (n1 : f1.name ≠ "_") (o0 : f0.offset = 0) (o1 : f1.offset = 4) (d : Nat) (a b c f s a' b' c' f' s' : Int) (w : World) :
    (Op.equalIn (d + 3) t (.agg #[.int k a, .int k b, .int k c, .int k f, .int k s]) (.agg #[.int k a', .int k b', .int k c', .int k f', .int k s'])).run P w = .ok (decide (a = a' ∧ b = b' ∧ c = c' ∧ f = f' ∧ s = s')) w := by
  have hf : P.fieldsOf t = #[f0, f1] := by simp [Program.fieldsOf, ht]
  have i0 : ∀ w, (isAgg f0.type).run P w = .ok true w := fun w => by simp [isAgg, run_underlying h0]
  have i1 : ∀ w, (isAgg f1.type).run P w = .ok false w := fun w => by simp [isAgg, run_underlying h1]
  rw [run_equalIn_struct w (d + 2) t _ _ (by rw [hf]; exact ht) hp, hf]
  have e4 := eq_arr4 h0 he hi hz d a b c f a' b' c' f'
  simp [Op.eqFields, n0, n1, part, i0, i1, hz4, o0, o1, eq_int h1, e4]
  by_cases e0 : a = a' <;> by_cases e1 : b = b' <;> by_cases e2 : c = c' <;> by_cases e3 : f = f' <;> by_cases e4 : s = s' <;> simp [e0, e1, e2, e3, e4]
section eqs
variable {C : Cx} {F : Fr} {L : List HL} {o : Oper}
theorem Still.eqlAgg {xt yt : TypeId} {x y : Operand} {xs ys : Array Value} {b : Bool} (ho : o.op = .binOp .eql xt x y yt) (hx : F.ev x = some (.agg xs)) (hy : F.ev y = some (.agg ys)) (hg : C.P.eqGuardType C.P.depth xt = false)
    (hr : ∀ w, (Op.equalIn 10000 xt (.agg xs) (.agg ys)).run C.P w = .ok b w) : Still C o F L (.bool b) :=
  ⟨fun c h => (by rw [ho] at h; cases h), fun a w ok => by simp only [execOp, ho, ok.fr.ev hx, ok.fr.ev hy]; simp [run_eqGuard_agg w _ xt x y xs ys hg, run_eql_struct, hr]⟩
theorem Still.neqAgg {xt yt : TypeId} {x y : Operand} {xs ys : Array Value} {b : Bool} (ho : o.op = .binOp .neq xt x y yt) (hx : F.ev x = some (.agg xs)) (hy : F.ev y = some (.agg ys)) (hg : C.P.eqGuardType C.P.depth xt = false)
    (hr : ∀ w, (Op.equalIn 10000 xt (.agg xs) (.agg ys)).run C.P w = .ok b w) : Still C o F L (.bool (!b)) :=
  ⟨fun c h => (by rw [ho] at h; cases h), fun a w ok => by simp only [execOp, ho, ok.fr.ev hx, ok.fr.ev hy]; simp [run_eqGuard_agg w _ xt x y xs ys hg, run_neq_struct, hr]⟩
end eqs
/-! ### A piece that comes to one state -/
def Meets (C : Cx) (F : Fr) (L : List HL) (Q : Exit → Act → World → Prop) : Exit → Act → World → Prop
  | .normal, a, w => Ok C F L a w
  | e, a, w => Q e a w
theorem RunC.meet1 {C : Cx} {c : Code} {Q : Exit → Act → World → Prop} {F chg keep : Fr} {L hkeep : List HL} (_ : keep.Sub F) (_ : HSub hkeep L) (h : RunC C c (Meets C (chg ++ keep) hkeep Q) F L) (hq : Ends C .normal Q (chg ++ keep) hkeep) : RunC C c Q F L := fun a w ok =>
  wpIn_mono (h a w ok) fun e a w h => by cases e <;> first | exact hq a w h | exact h
theorem Ends.meet1 {C : Cx} {Q : Exit → Act → World → Prop} {F chg keep : Fr} {L hkeep : List HL} (hc : chg.Sub F) (hk : keep.Sub F) (hL : HSub hkeep L) : Ends C .normal (Meets C (chg ++ keep) hkeep Q) F L := fun _ _ ok => ok.sub (hc.app hk) hL
theorem Ends.meet1_ret {C : Cx} {Q : Exit → Act → World → Prop} {F G : Fr} {L K : List HL} (h : Ends C .ret Q F L) : Ends C .ret (Meets C G K Q) F L := h
theorem Ends.meet1_exit {C : Cx} {Q : Exit → Act → World → Prop} {F G : Fr} {L K : List HL} {i : Nat} (h : Ends C (.exit i) Q F L) : Ends C (.exit i) (Meets C G K Q) F L := h
def MeetsG (C : Cx) {γ : Type} (I : γ → Prop) (Fi : γ → Fr) (Li : γ → List HL) (Q : Exit → Act → World → Prop) : Exit → Act → World → Prop
  | .normal, a, w => ∃ g, I g ∧ Ok C (Fi g) (Li g) a w
  | e, a, w => Q e a w
theorem RunC.meetG {C : Cx} {c : Code} {Q : Exit → Act → World → Prop} {F keep : Fr} {L hkeep : List HL} {γ : Type} (I : γ → Prop) (chg : γ → Fr) (hchg : γ → List HL) (_ : keep.Sub F) (_ : HSub hkeep L)
    (h : RunC C c (MeetsG C I (fun g => chg g ++ keep) (fun g => hchg g ++ hkeep) Q) F L) (hq : ∀ g, I g → Ends C .normal Q (chg g ++ keep) (hchg g ++ hkeep)) : RunC C c Q F L := fun a w ok =>
  wpIn_mono (h a w ok) fun e a w h => by cases e <;> first | (obtain ⟨g, hg, ok'⟩ := h; exact hq g hg a w ok') | exact h
theorem Ends.meetG {C : Cx} {Q : Exit → Act → World → Prop} {F keep : Fr} {L hkeep : List HL} {γ : Type} {I : γ → Prop} {chg : γ → Fr} {hchg : γ → List HL} (g : γ) (hI : I g) (hc : (chg g).Sub F) (hk : keep.Sub F) (hL : HSub (hchg g ++ hkeep) L) :
    Ends C .normal (MeetsG C I (fun g => chg g ++ keep) (fun g => hchg g ++ hkeep) Q) F L := fun _ _ ok => ⟨g, hI, ok.sub (hc.app hk) hL⟩
/-! ### A slice value whose length is known -/
def Shape (v : Value) (n : Nat) : Prop := ∃ base cap, v = .slice base n cap ∧ (0 < n → base = some (vaddr v))
theorem own_shape {w : World} {e k n : Nat} {v : Value} {xs : List Value} (h : w.ownsRow 0 e k v n xs) : Shape v n := by
  rcases h.2 with ⟨hv, h0⟩ | ⟨g, cap, cur, hv, _⟩
  · subst h0; exact ⟨none, 0, hv, fun h => by omega⟩
  · exact ⟨_, cap, hv, fun _ => by rw [hv]; rfl⟩
theorem shape_slice {base : Option Addr} {A : Addr} {n cap : Nat} (h : 0 < n → base = some A) : Shape (.slice base n cap) n := ⟨base, cap, rfl, fun hn => by rw [h hn]; rfl⟩
theorem cells_at {w : World} {A : Addr} {cs : List Value} {j : Nat} {u : Value} (h : Cells w A cs) (hj : cs[j]? = some u) : w.cell? (A.add j) = some u := h j u hj
theorem cells_at2 {w : World} {A : Addr} {cs : List Value} {i j : Nat} {u : Value} (h : Cells w A cs) (hj : cs[i + j]? = some u) : w.cell? ((A.add i).add j) = some u := by rw [add_add]; exact h _ u hj
theorem cells_at3 {w : World} {A : Addr} {cs : List Value} {i j l : Nat} {u : Value} (h : Cells w A cs) (hj : cs[i + j + l]? = some u) : w.cell? (((A.add i).add j).add l) = some u := by rw [add_add, add_add, ← Nat.add_assoc]; exact h _ u hj
theorem cells_part {w : World} {A : Addr} {cs us : List Value} {i : Nat} (h : Cells w A cs) (hj : ∀ j u, us[j]? = some u → cs[i + j]? = some u) : Cells w (A.add i) us := fun j u hu => cells_at2 h (hj j u hu)
theorem cells_part2 {w : World} {A : Addr} {cs us : List Value} {i l : Nat} (h : Cells w A cs) (hj : ∀ j u, us[j]? = some u → cs[i + l + j]? = some u) : Cells w ((A.add i).add l) us := fun j u hu => cells_at3 h (hj j u hu)
section shape
variable {C : Cx} {F : Fr} {L : List HL} {o : Oper}
theorem Still.lenV {x : Operand} {t n : Nat} {v : Value} (ho : o.op = .call { callee := .builtin .len, args := #[x], argTypes := #[t] }) (hx : F.ev x = some v) (ht : C.P.underlying t = some (.slice (C.P.elem t))) (hv : Shape v n) : Still C o F L (.int .i64 n) := by
  obtain ⟨base, cap, hv, _⟩ := hv
  subst hv
  exact Still.lenSlice ho hx ht
theorem Still.indexV {t et : TypeId} {x ix : Operand} {v : Value} {n k : Nat} {kd : IntKind} {i : Int} (m : Nat) (ho : o.op = .indexAddr t x ix) (hx : F.ev x = some v) (hi : F.ev ix = some (.int kd i))
    (ht : C.P.underlying t = some (.slice et)) (hz : ∀ w, (sizeOf et).run C.P w = .ok k w) (hv : Shape v n) (hm : i = (m : Int)) (hb : m < n) : Still C o F L (.pointer (some ((vaddr v).add (m * k)))) := by
  obtain ⟨base, cap, hv, hA⟩ := hv
  subst hm
  have hA' := hA (by omega)
  rw [hv] at hx hA' ⊢
  exact Still.indexSliceN ho hx hi ht hz hA' hb
end shape
theorem RunL.conv {C : Cx} {ops : Array Oper} {Q : Exit → Act → World → Prop} {l : List Oper} {F : Fr} {L L' : List HL} (hc : ∀ w, Sym C.w0 C.S L w → Sym C.w0 C.S L' w) (h : RunL C ops Q l F L') : RunL C ops Q l F L := fun a w ok => h a w ⟨ok.fr, hc w ok.sym⟩
theorem RunC.conv {C : Cx} {Q : Exit → Act → World → Prop} {c : Code} {F : Fr} {L L' : List HL} (hc : ∀ w, Sym C.w0 C.S L w → Sym C.w0 C.S L' w) (h : RunC C c Q F L') : RunC C c Q F L := fun a w ok => h a w ⟨ok.fr, hc w ok.sym⟩
theorem Ends.conv {C : Cx} {Q : Exit → Act → World → Prop} {e : Exit} {F : Fr} {L L' : List HL} (hc : ∀ w, Sym C.w0 C.S L w → Sym C.w0 C.S L' w) (h : Ends C e Q F L') : Ends C e Q F L := fun a w ok => h a w ⟨ok.fr, hc w ok.sym⟩
/-- A fact that the memory holds. -/
theorem RunL.know {C : Cx} {ops : Array Oper} {Q : Exit → Act → World → Prop} {l : List Oper} {F : Fr} {L : List HL} {p : Prop} (hp : ∀ w, Sym C.w0 C.S L w → p) (h : p → RunL C ops Q l F L) : RunL C ops Q l F L := fun a w ok => h (hp w ok.sym) a w ok
theorem RunC.know {C : Cx} {Q : Exit → Act → World → Prop} {c : Code} {F : Fr} {L : List HL} {p : Prop} (hp : ∀ w, Sym C.w0 C.S L w → p) (h : p → RunC C c Q F L) : RunC C c Q F L := fun a w ok => h (hp w ok.sym) a w ok
/-! ### Rows of slices -/
/-- Many heaplets as one. -/
def HL.all : List HL → HL
  | [] => HL.emp
  | h :: r => HL.star h (HL.all r)
theorem HL.all_mem : ∀ {l : List HL} {h : HL} {w : World}, (HL.all l).holds w → h ∈ l → h.holds w
  | k :: r, h, w, hh, hm => by
    rcases List.mem_cons.1 hm with rfl | hm
    · exact hh.1
    · exact HL.all_mem hh.2.1 hm
def HL.rows {α : Type} (mk : α → HL) (as : List α) : HL := HL.all (as.reverse.map mk)
theorem rows_nil {α : Type} (mk : α → HL) : HL.rows mk [] = HL.emp := rfl
theorem rows_snoc {α : Type} (mk : α → HL) (as : List α) (a : α) : HL.rows mk (as ++ [a]) = HL.star (mk a) (HL.rows mk as) := by simp [HL.rows, HL.all]
theorem rows_get {α : Type} {mk : α → HL} {as : List α} {a : α} {i : Nat} {w : World} (h : (HL.rows mk as).holds w) (hi : as[i]? = some a) : (mk a).holds w :=
  HL.all_mem h (List.mem_map_of_mem (List.mem_reverse.2 (List.mem_of_getElem? hi)))
theorem Sym.rows_push {α : Type} {mk : α → HL} {as : List α} {a : α} {w0 w : World} {S : Nat → Prop} {R : List HL} (hs : Sym w0 S (mk a :: HL.rows mk as :: R) w) : Sym w0 S (HL.rows mk (as ++ [a]) :: R) w := by
  rw [rows_snoc]; exact hs.join
theorem Sym.emp {w0 w : World} {S : Nat → Prop} {L : List HL} (hs : Sym w0 S L w) : Sym w0 S (HL.emp :: L) w := by
  refine ⟨hs.old, fun h hm => ?_, fun h hm b hb => ?_, List.pairwise_cons.2 ⟨fun _ _ b hb => hb.elim, hs.apart⟩⟩
  · rcases List.mem_cons.1 hm with rfl | hm
    · trivial
    · exact hs.holds h hm
  · rcases List.mem_cons.1 hm with rfl | hm
    · exact hb.elim
    · exact hs.supp h hm b hb
end Go.V
/- The proof layer, part g: rows of slices, empty slices, small lists. -/
namespace Go.V
open Go
section g
variable {C : Cx} {F : Fr} {L : List HL} {o : Oper}
/-- '[]T{}': nothing, but not nil. -/
theorem Grows.empty {t e : TypeId} {size : Nat} {z : Value} (ho : o.op = .buildSlice t 0 #[]) (ht : C.P.underlying t = some (.slice e)) (hz : ∀ w, (sizeOf e).run C.P w = .ok size w) (hzv : ∀ w, (zeroValue e).run C.P w = .ok z w) :
    Grows C o F L (fun _ : Nat => True) (fun b => .slice (some ⟨b, 0, none⟩) 0 0) (fun b => [HL.own e size (.slice (some ⟨b, 0, none⟩) 0 0) 0 []]) := fun a w ok next Q h =>
  Grows.buildSlice (vs := #[]) (cells := #[]) ho rfl ht hz hzv (by omega) (by simp [Instr.fill]) a w ok next Q fun g w' hφ hold hs => h g w' hφ hold (Sym.obj_own (k := size) (n := 0) hs (by simp) (by omega))
end g
theorem Sym.rows_nil {α : Type} {w0 w : World} {S : Nat → Prop} {L : List HL} (mk : α → HL) (hs : Sym w0 S L w) : Sym w0 S (HL.rows mk [] :: L) w := hs.emp
theorem any_take_succ {α : Type} {as : List α} {i : Nat} {a : α} {f : α → Bool} (h : as[i]? = some a) : (as.take (i + 1)).any f = ((as.take i).any f || f a) := by
  rw [List.take_add_one, h, List.any_append]; simp
theorem fst_get {α β : Type} {as : List (α × β)} {i : Nat} {a : α × β} (h : as[i]? = some a) : (as.map Prod.fst)[i * 1]? = some a.1 := by simp [h]
theorem any_snd {α β : Type} {f : β → Bool} (as : List (α × β)) : (as.map Prod.snd).any f = as.any fun a => f a.2 := by rw [List.any_map]; rfl
/-! ### Lists of bools -/
def bools (xs : List Bool) : List Value := xs.map Value.bool
theorem bools_get {xs : List Bool} {m : Nat} {y : Bool} (h : xs[m]? = some y) : (bools xs)[m * 1]? = some (.bool y) := by simp [bools, h]
@[simp] theorem length_bools (xs : List Bool) : (bools xs).length = xs.length := by simp [bools]
theorem bools_set (xs : List Bool) (m : Nat) (y : Bool) : (bools xs).set (m * 1) (.bool y) = bools (xs.set m y) := by simp [bools, List.map_set]
theorem bools_replicate (n : Nat) (y : Bool) : List.replicate n (.bool y) = bools (List.replicate n y) := by simp [bools]
end Go.V
/- The proof layer, part h: maps that the call owns, with keys of a known make. -/
namespace Go.V
open Go
/-- Keys of one type, as they lie in Lean. -/
structure MKey (P : Program) (kt : TypeId) {κ : Type} [DecidableEq κ] (enc : κ → Value) : Prop where
  check : ∀ (e : Bool) k w, (Instr.checkKey e 10000 kt (enc k)).run P w = .ok () w
  eq : ∀ k k' w, (Op.equal kt (enc k) (enc k')).run P w = .ok (decide (k = k')) w
  now : ∃ d, P.underlying kt = some d ∧ ∀ k k', Instr.sameNow d (enc k) (enc k') = none ∨ Instr.sameNow d (enc k) (enc k') = some (decide (k = k'))
  same : ∀ k, Instr.sameBits 10000 (enc k) (enc k) = true
section plain
variable {κ : Type} [DecidableEq κ]
def mget : List (κ × Value) → κ → Option Value
  | [], _ => none
  | p :: r, k => if p.1 = k then some p.2 else mget r k
def mput : List (κ × Value) → κ → Value → List (κ × Value)
  | [], k, v => [(k, v)]
  | p :: r, k, v => if p.1 = k then (k, v) :: r else p :: mput r k v
def mfind : List (κ × Value) → κ → Nat → Option (Nat × Value)
  | [], _, _ => none
  | p :: r, k, i => if k = p.1 then some (i, p.2) else mfind r k (i + 1)
theorem mget_mput (l : List (κ × Value)) (k k' : κ) (v : Value) : mget (mput l k v) k' = if k = k' then some v else mget l k' := by
  induction l with
  | nil => simp only [mput, mget]
  | cons p r ih =>
    simp only [mput]
    split
    · rename_i e; simp only [mget, e]; split <;> rfl
    · rename_i e
      simp only [mget, ih]
      by_cases h : p.1 = k'
      · have : ¬ k = k' := fun h2 => e (h.trans h2.symm)
        simp [h, this]
      · simp [h]
theorem mfind_get (l : List (κ × Value)) (k : κ) : ∀ i, (mfind l k i).map (·.2) = mget l k := by
  induction l with
  | nil => intro i; rfl
  | cons p r ih =>
    intro i
    simp only [mfind, mget]
    by_cases h : p.1 = k
    · simp [h]
    · have : ¬ k = p.1 := fun e => h e.symm
      simp [h, this, ih]
theorem mput_new {l : List (κ × Value)} {k : κ} {v : Value} (h : mget l k = none) : mput l k v = l ++ [(k, v)] := by
  induction l with
  | nil => rfl
  | cons p r ih =>
    simp only [mget] at h
    split at h
    · cases h
    · rename_i e; simp only [mput, if_neg e, ih h, List.cons_append]
def Ents (enc : κ → Value) (es : List MapEntry) (l : List (κ × Value)) : Prop := es.map (fun e => (e.key, e.val)) = l.map fun p => (enc p.1, p.2)
theorem Ents.nil {τ : Type} {enc : τ → Value} : Ents enc [] [] := rfl
theorem Ents.cons {τ : Type} {enc : τ → Value} {e : MapEntry} {es : List MapEntry} {p : τ × Value} {l : List (τ × Value)} : Ents enc (e :: es) (p :: l) ↔ (e.key = enc p.1 ∧ e.val = p.2) ∧ Ents enc es l := by
  simp only [Ents, List.map_cons, List.cons.injEq, Prod.mk.injEq]
theorem findAsking_run {P : Program} {kt : TypeId} {enc : κ → Value} (hk : MKey P kt enc) (k : κ) : ∀ (es : List MapEntry) (l : List (κ × Value)) (i : Nat) (w : World), Ents enc es l → (Instr.findAsking kt (enc k) es i).run P w = .ok (mfind l k i) w
  | [], [], i, w, _ => by simp [Instr.findAsking, mfind]
  | [], _ :: _, _, _, h => by simp [Ents] at h
  | _ :: _, [], _, _, h => by simp [Ents] at h
  | e :: es, p :: l, i, w, h => by
    obtain ⟨⟨h1, h2⟩, h3⟩ := Ents.cons.1 h
    have ih := findAsking_run hk k es l (i + 1) w h3
    simp only [Instr.findAsking, h1, Sem.run_bind, hk.eq, Result.andThen_ok, mfind]
    by_cases e : k = p.1
    · simp [e, h2]
    · simp [e, ih]
theorem findNow_run {enc : κ → Value} {d : TypeDesc} (hn : ∀ k k', Instr.sameNow d (enc k) (enc k') = none ∨ Instr.sameNow d (enc k) (enc k') = some (decide (k = k'))) (k : κ) : ∀ (es : List MapEntry) (l : List (κ × Value)) (i : Nat), Ents enc es l → Instr.findNow d (enc k) es i = none ∨ Instr.findNow d (enc k) es i = some (mfind l k i)
  | [], [], i, _ => .inr rfl
  | [], _ :: _, _, h => by simp [Ents] at h
  | _ :: _, [], _, h => by simp [Ents] at h
  | e :: es, p :: l, i, h => by
    obtain ⟨⟨h1, h2⟩, h3⟩ := Ents.cons.1 h
    have ih := findNow_run hn k es l (i + 1) h3
    simp only [Instr.findNow, h1, mfind]
    rcases hn k p.1 with e | e
    · simp [e]
    · by_cases e2 : k = p.1
      · rw [e]; simp [e2, h2]
      · rw [e]; simp [e2, ih]
theorem findKey_run {P : Program} {kt : TypeId} {enc : κ → Value} (hk : MKey P kt enc) (k : κ) {es : List MapEntry} {l : List (κ × Value)} (w : World) (h : Ents enc es l) : (Instr.findKey kt (enc k) es).run P w = .ok (mfind l k 0) w := by
  obtain ⟨d, hd, hn⟩ := hk.now
  simp only [Instr.findKey, Sem.run_bind, run_underlying hd, Result.andThen_ok]
  rcases findNow_run hn k es l 0 h with e | e
  · simp [e, findAsking_run hk k es l 0 w h]
  · simp [e]
theorem mfind_bound {l : List (κ × Value)} {k : κ} : ∀ {i j : Nat} {v : Value}, mfind l k i = some (j, v) → i ≤ j ∧ ∃ p, l[j - i]? = some p ∧ p.1 = k := by
  induction l with
  | nil => intro i j v h; simp [mfind] at h
  | cons p r ih =>
    intro i j v h
    simp only [mfind] at h
    split at h
    · rename_i e; simp at h; obtain ⟨rfl, _⟩ := h; exact ⟨Nat.le_refl _, p, by simp, e.symm⟩
    · obtain ⟨h1, q, hq, e⟩ := ih h
      exact ⟨by omega, q, by rw [show j - i = (j - (i + 1)) + 1 by omega]; simpa using hq, e⟩
theorem ents_modify {enc : κ → Value} {k : κ} {v : Value} {f : MapEntry → MapEntry} (hf : ∀ e, (f e).key = enc k ∧ (f e).val = v) : ∀ {es : List MapEntry} {l : List (κ × Value)} {i j : Nat} {u : Value}, Ents enc es l → mfind l k i = some (j, u) → Ents enc (es.modify (j - i) f) (mput l k v)
  | [], [], _, _, _, _, hm => by simp [mfind] at hm
  | [], _ :: _, _, _, _, h, _ => by simp [Ents] at h
  | _ :: _, [], _, _, _, h, _ => by simp [Ents] at h
  | e :: es, p :: l, i, j, u, h, hm => by
    obtain ⟨⟨h1, h2⟩, h3⟩ := Ents.cons.1 h
    simp only [mfind] at hm
    by_cases e2 : k = p.1
    · rw [if_pos e2] at hm
      simp at hm
      obtain ⟨rfl, _⟩ := hm
      simp only [Nat.sub_self, mput, if_pos e2.symm, List.modify_zero_cons]
      exact Ents.cons.2 ⟨hf e, h3⟩
    · rw [if_neg e2] at hm
      have hb := mfind_bound hm
      rw [show j - i = (j - (i + 1)) + 1 by omega]
      have e3 : ¬ p.1 = k := fun x => e2 x.symm
      simp only [mput, if_neg e3, List.modify_succ_cons]
      exact Ents.cons.2 ⟨⟨h1, h2⟩, ents_modify hf h3 hm⟩
theorem ents_push {enc : κ → Value} {k : κ} {v : Value} {e : MapEntry} (he : e.key = enc k ∧ e.val = v) {es : List MapEntry} {l : List (κ × Value)} (h : Ents enc es l) (hm : mget l k = none) : Ents enc (es ++ [e]) (mput l k v) := by
  rw [mput_new hm]
  simp only [Ents, List.map_append, List.map_cons, List.map_nil] at h ⊢
  rw [h, he.1, he.2]
/-- Block b is a map with these entries. -/
def HL.mp (b : Nat) (enc : κ → Value) (l : List (κ × Value)) : HL :=
  ⟨fun c => c = b, fun w => ∃ es clock, w.heap[b]? = some (.map es clock) ∧ Ents enc es.toList l, fun _ _ h ⟨es, cl, h1, h2⟩ => ⟨es, cl, (h b rfl).trans h1, h2⟩⟩
theorem Sym.obj_mp {τ : Type} {w0 w : World} {S : Nat → Prop} {L : List HL} {b : Nat} (enc : τ → Value) (hs : Sym w0 S (HL.obj b (.map #[] 0) :: L) w) : Sym w0 S (HL.mp b enc [] :: L) w :=
  ⟨hs.old, fun h hm => by
    rcases List.mem_cons.1 hm with rfl | hm
    · exact ⟨#[], 0, hs.holds _ (List.mem_cons_self ..), rfl⟩
    · exact hs.holds h (List.mem_cons_of_mem _ hm),
   fun h hm b' hb => by
    rcases List.mem_cons.1 hm with rfl | hm
    · exact hs.supp _ (List.mem_cons_self ..) b' hb
    · exact hs.supp h (List.mem_cons_of_mem _ hm) b' hb,
   by have := List.pairwise_cons.1 hs.apart; exact List.pairwise_cons.2 ⟨this.1, this.2⟩⟩
end plain
section ops
variable {C : Cx} {F : Fr} {L : List HL} {o : Oper} {κ : Type} [DecidableEq κ]
theorem Grows.makeMapK {τ : Type} {t : TypeId} (enc : τ → Value) (ho : o.op = .makeMap t none) : Grows C o F L (fun _ : Nat => True) (fun b => .map (some b)) (fun b => [HL.mp b enc []]) := fun a w ok next Q h =>
  Grows.makeMap ho a w ok next Q fun g w' hφ hold hs => h g w' hφ hold (Sym.obj_mp enc hs)
theorem lookup_run {P : Program} {w : World} {t kt et : TypeId} {b : Nat} {enc : κ → Value} {l : List (κ × Value)} {z : Value} (k : κ) (hm : (HL.mp b enc l).holds w) (ht : P.underlying t = some (.map kt et)) (hk : MKey P kt enc) (hz : ∀ w, (zeroValue et).run P w = .ok z w) (q : Bool) :
    (Instr.lookup t (.map (some b)) (enc k) q).run P w = .ok (if q then .tuple #[(mget l k).getD z, .bool (mget l k).isSome] else (mget l k).getD z) w := by
  obtain ⟨es, clock, hb, he⟩ := hm
  have hf := findKey_run hk k w he
  have hg := mfind_get l k 0
  simp only [Instr.lookup, Sem.run_bind, run_underlying ht, MapKept.run_getObj_map hb, Result.andThen_ok, Sem.run_pure, hk.check, hf]
  rw [← hg]
  cases hc : mfind l k 0 with
  | none => cases q <;> simp [hz]
  | some p => cases q <;> simp
theorem Still.lookup2 {t kt et : TypeId} {x y : Operand} {i b : Nat} {enc : κ → Value} {l : List (κ × Value)} {z : Value} (k : κ) (ho : o.op = .lookup t x y true) (hx : F.ev x = some (.map (some b))) (hy : F.ev y = some (enc k)) (hi : L[i]? = some (HL.mp b enc l)) (ht : C.P.underlying t = some (.map kt et))
    (hk : MKey C.P kt enc) (hz : ∀ w, (zeroValue et).run C.P w = .ok z w) {v : Value} {s : Bool} (hv : (mget l k).getD z = v) (hs : (mget l k).isSome = s) : Still C o F L (.tuple #[v, .bool s]) :=
  ⟨fun c h => (by rw [ho] at h; cases h), fun a w ok => by
    subst hv; subst hs
    have := lookup_run k (ok.sym.at hi) ht hk hz true
    simp only [execOp, ho, ok.fr.ev hx, ok.fr.ev hy]; simp at this ⊢; simp [this]⟩
theorem Still.lookup1 {t kt et : TypeId} {x y : Operand} {i b : Nat} {enc : κ → Value} {l : List (κ × Value)} {z : Value} (k : κ) (ho : o.op = .lookup t x y false) (hx : F.ev x = some (.map (some b))) (hy : F.ev y = some (enc k)) (hi : L[i]? = some (HL.mp b enc l)) (ht : C.P.underlying t = some (.map kt et))
    (hk : MKey C.P kt enc) (hz : ∀ w, (zeroValue et).run C.P w = .ok z w) {v : Value} (hv : (mget l k).getD z = v) : Still C o F L v :=
  ⟨fun c h => (by rw [ho] at h; cases h), fun a w ok => by
    subst hv
    have := lookup_run k (ok.sym.at hi) ht hk hz false
    simp only [execOp, ho, ok.fr.ev hx, ok.fr.ev hy]; simp at this ⊢; simp [this]⟩
theorem Does.mapUpdate {t kt et : TypeId} {x y z : Operand} {i b : Nat} {enc : κ → Value} {l : List (κ × Value)} {v : Value} (k : κ) (ho : o.op = .mapUpdate t x y z) (hx : F.ev x = some (.map (some b))) (hy : F.ev y = some (enc k)) (hv : F.ev z = some v) (hi : L[i]? = some (HL.mp b enc l)) (ht : C.P.underlying t = some (.map kt et))
    (hk : MKey C.P kt enc) : Does C o F L (fun _ : Unit => True) (fun _ => undef) (fun _ => L.set i (HL.mp b enc (mput l k v))) := fun a w ok next Q h => by
  obtain ⟨es, clock, hb, he⟩ := ok.sym.at hi
  have hf := findKey_run hk k w he
  have hlt : b < w.heap.size := (ok.sym.supp _ (List.mem_of_getElem? hi) b rfl).1
  have key : ∀ (ob : Obj), (∃ es cl, ob = .map es cl ∧ Ents enc es.toList (mput l k v)) → Sym C.w0 C.S (L.set i (HL.mp b enc (mput l k v))) { w with heap := w.heap.setIfInBounds b ob } := by
    rintro ob ⟨es', cl', rfl, he'⟩
    refine ok.sym.turn hi (fun c hc => ⟨.inl hc, by have e : c = b := hc; subst e; simpa using hlt⟩) ⟨rfl, rfl, rfl, by simp, fun j _ hj => ?_⟩ ⟨es', cl', by simp [hlt], he'⟩
    have : b ≠ j := fun e => hj e.symm
    simp [this]
  have hst : (Instr.keyThatStays (enc k) (enc k)).run C.P w = .ok (enc k) w := by simp [Instr.keyThatStays, hk.same]
  cases hc : mfind l k 0 with
  | none =>
    refine wpIn_skip' (fun c h => (by rw [ho] at h; cases h)) (w' := { w with heap := w.heap.setIfInBounds b (.map (es.push { key := enc k, val := v, born := clock }) (clock + 1)) }) ?_ (h () _ trivial (key _ ⟨_, _, rfl, ?_⟩))
    · simp only [execOp, ho, ok.fr.ev hx, ok.fr.ev hy, ok.fr.ev hv]
      simp [Instr.mapUpdate, run_underlying ht, MapKept.run_getObj_map hb, hk.check, hf, hc, MapKept.run_setObj_map _ hb]
    · rw [Array.toList_push]
      exact ents_push (enc := enc) (k := k) (v := v) ⟨rfl, rfl⟩ he (by rw [← mfind_get l k 0, hc]; rfl)
  | some p =>
    obtain ⟨j, u⟩ := p
    obtain ⟨_, q, hq, e⟩ := mfind_bound hc
    have hkey : ((es[j]?).map (·.key)).getD (enc k) = enc k := by
      have h1 := congrArg (fun l => l[j]?) he
      simp only [List.getElem?_map, Array.getElem?_toList] at h1
      simp only [Nat.sub_zero] at hq
      rw [hq] at h1
      cases hej : es[j]? with
      | none => rfl
      | some en => rw [hej] at h1; simp at h1; simp [h1.1, e]
    refine wpIn_skip' (fun c h => (by rw [ho] at h; cases h)) (w' := { w with heap := w.heap.setIfInBounds b (.map (es.modify j fun e => { e with key := enc k, val := v }) clock) }) ?_ (h () _ trivial (key _ ⟨_, _, rfl, ?_⟩))
    · simp only [execOp, ho, ok.fr.ev hx, ok.fr.ev hy, ok.fr.ev hv]
      simp [Instr.mapUpdate, run_underlying ht, MapKept.run_getObj_map hb, hk.check, hf, hc, hkey, hst, MapKept.run_setObj_map _ hb]
    · rw [Array.toList_modify]
      have := ents_modify (v := v) (f := fun e => { e with key := enc k, val := v }) (fun e => ⟨rfl, rfl⟩) he hc
      simpa using this
end ops
/-! ### Keys -/
theorem eq_bool {P : Program} {t : TypeId} (h : P.underlying t = some .bool) (d : Nat) (a b : Bool) (w : World) : (Op.equalIn (d + 1) t (.bool a) (.bool b)).run P w = .ok (decide (a = b)) w := by
  unfold Op.equalIn
  simp [run_underlying h, Bool.beq_eq_decide_eq]
theorem eq_int_bool {P : Program} {t : TypeId} {f0 f1 : Field} {k : IntKind} (ht : P.underlying t = some (.struct #[f0, f1])) (hp : P.stoodInHeld t = false) (h0 : P.underlying f0.type = some (.int k)) (h1 : P.underlying f1.type = some .bool)
    (n0 : f0.name ≠ "_") (n1 : f1.name ≠ "_") (o0 : f0.offset = 0) (o1 : f1.offset = 1) (d : Nat) (a : Int) (b : Bool) (a' : Int) (b' : Bool) (w : World) :
    (Op.equalIn (d + 2) t (.agg #[.int k a, .bool b]) (.agg #[.int k a', .bool b'])).run P w = .ok (decide (a = a' ∧ b = b')) w := by
  have hf : P.fieldsOf t = #[f0, f1] := by simp [Program.fieldsOf, ht]
  have i0 : ∀ w, (isAgg f0.type).run P w = .ok false w := fun w => by simp [isAgg, run_underlying h0]
  have i1 : ∀ w, (isAgg f1.type).run P w = .ok false w := fun w => by simp [isAgg, run_underlying h1]
  rw [run_equalIn_struct w (d + 1) t _ _ (by rw [hf]; exact ht) hp, hf]
  simp [Op.eqFields, n0, n1, part, i0, i1, o0, o1, eq_int h0, eq_bool h1]
  by_cases e0 : a = a' <;> by_cases e1 : b = b' <;> simp [e0, e1]
theorem check_prim {P : Program} {t : TypeId} {d : TypeDesc} (h : P.underlying t = some d) (hd : (∃ k, d = .int k) ∨ d = .bool) (e : Bool) (n : Nat) (v : Value) (w : World) : (Instr.checkKey e (n + 1) t v).run P w = .ok () w := by
  unfold Instr.checkKey
  simp only [Sem.run_bind, run_underlying h, Result.andThen_ok]
  rcases hd with ⟨k, rfl⟩ | rfl <;> cases v <;> simp
theorem check_two {P : Program} {t : TypeId} {f0 f1 : Field} {d0 d1 : TypeDesc} (ht : P.underlying t = some (.struct #[f0, f1])) (h0 : P.underlying f0.type = some d0) (h1 : P.underlying f1.type = some d1) (k0 : (∃ k, d0 = .int k) ∨ d0 = .bool) (k1 : (∃ k, d1 = .int k) ∨ d1 = .bool)
    (n0 : f0.name ≠ "_") (n1 : f1.name ≠ "_") (o0 : f0.offset = 0) (o1 : f1.offset = 1) (e : Bool) (n : Nat) (u v : Value) (w : World) : (Instr.checkKey e (n + 2) t (.agg #[u, v])).run P w = .ok () w := by
  have i0 : ∀ w, (isAgg f0.type).run P w = .ok false w := fun w => by rcases k0 with ⟨k, rfl⟩ | rfl <;> simp [isAgg, run_underlying h0]
  have i1 : ∀ w, (isAgg f1.type).run P w = .ok false w := fun w => by rcases k1 with ⟨k, rfl⟩ | rfl <;> simp [isAgg, run_underlying h1]
  have c0 := fun w => check_prim h0 k0 e n u w
  have c1 := fun w => check_prim h1 k1 e n v w
  unfold Instr.checkKey
  simp [run_underlying ht, n0, n1, part, i0, i1, o0, o1, c0, c1, Sem.run_bind, Result.andThen_ok]
def encU (u : Int × Bool) : Value := .agg #[.int .i64 u.1, .bool u.2]
def encE (u : Int × Int) : Value := .agg #[.int .i64 u.1, .int .i64 u.2]
def encI (u : Int) : Value := .int .i64 u
theorem MKey.intBool {P : Program} {t : TypeId} {f0 f1 : Field} (ht : P.underlying t = some (.struct #[f0, f1])) (hp : P.stoodInHeld t = false) (h0 : P.underlying f0.type = some (.int .i64)) (h1 : P.underlying f1.type = some .bool)
    (n0 : f0.name ≠ "_") (n1 : f1.name ≠ "_") (o0 : f0.offset = 0) (o1 : f1.offset = 1) : MKey P t encU where
  check e k w := check_two ht h0 h1 (.inl ⟨_, rfl⟩) (.inr rfl) n0 n1 o0 o1 e 9998 _ _ w
  eq k k' w := by
    rw [show decide (k = k') = decide (k.1 = k'.1 ∧ k.2 = k'.2) from decide_eq_decide.2 Prod.ext_iff]
    exact eq_int_bool ht hp h0 h1 n0 n1 o0 o1 9998 _ _ _ _ w
  now := ⟨_, ht, fun k k' => .inl rfl⟩
  same k := by simp [encU, Instr.sameBits]
theorem MKey.intInt {P : Program} {t : TypeId} {f0 f1 : Field} (ht : P.underlying t = some (.struct #[f0, f1])) (hp : P.stoodInHeld t = false) (h0 : P.underlying f0.type = some (.int .i64)) (h1 : P.underlying f1.type = some (.int .i64))
    (n0 : f0.name ≠ "_") (n1 : f1.name ≠ "_") (o0 : f0.offset = 0) (o1 : f1.offset = 1) : MKey P t encE where
  check e k w := check_two ht h0 h1 (.inl ⟨_, rfl⟩) (.inl ⟨_, rfl⟩) n0 n1 o0 o1 e 9998 _ _ w
  eq k k' w := by
    rw [show decide (k = k') = decide (k.1 = k'.1 ∧ k.2 = k'.2) from decide_eq_decide.2 Prod.ext_iff]
    exact eq_two ht hp h0 h1 n0 n1 o0 o1 9998 _ _ _ _ w
  now := ⟨_, ht, fun k k' => .inl rfl⟩
  same k := by simp [encE, Instr.sameBits]
theorem MKey.int {P : Program} {t : TypeId} (ht : P.underlying t = some (.int .i64)) : MKey P t encI where
  check e k w := check_prim ht (.inl ⟨_, rfl⟩) e 9999 _ w
  eq k k' w := eq_int ht 9999 _ _ w
  now := ⟨_, ht, fun k k' => .inr (by simp [Instr.sameNow, encI, Bool.beq_eq_decide_eq])⟩
  same k := by simp [encI, Instr.sameBits]
end Go.V
/- The proof layer, part i: ranges over a function. -/
namespace Go.V
open Go
/-- Two heaplets as one. -/
theorem Sym.star {w0 w : World} {S : Nat → Prop} {h k : HL} {L : List HL} (hs : Sym w0 S (h :: k :: L) w) : Sym w0 S (HL.star h k :: L) w := by
  have hp := List.pairwise_cons.1 hs.apart
  have hp2 := List.pairwise_cons.1 hp.2
  refine ⟨hs.old, fun g hg => ?_, fun g hg b hb => ?_, List.pairwise_cons.2 ⟨fun g hg b hb hgb => ?_, hp2.2⟩⟩
  · rcases List.mem_cons.1 hg with rfl | hg
    · exact ⟨hs.holds _ (by simp), hs.holds _ (by simp), hp.1 k (by simp)⟩
    · exact hs.holds g (by simp [hg])
  · rcases List.mem_cons.1 hg with rfl | hg
    · rcases hb with hb | hb
      · exact hs.supp h (by simp) b hb
      · exact hs.supp k (by simp) b hb
    · exact hs.supp g (by simp [hg]) b hb
  · rcases hb with hb | hb
    · exact hp.1 g (by simp [hg]) b hb hgb
    · exact hp2.1 g hg b hb hgb
theorem Sym.unstar {w0 w : World} {S : Nat → Prop} {h k : HL} {L : List HL} (hs : Sym w0 S (HL.star h k :: L) w) : Sym w0 S (h :: k :: L) w := by
  have hp := List.pairwise_cons.1 hs.apart
  have hh : (HL.star h k).holds w := hs.holds _ (by simp)
  refine ⟨hs.old, fun g hg => ?_, fun g hg b hb => ?_, List.pairwise_cons.2 ⟨fun g hg b hb hgb => ?_, List.pairwise_cons.2 ⟨fun g hg b hb hgb => ?_, hp.2⟩⟩⟩
  · rcases List.mem_cons.1 hg with rfl | hg
    · exact hh.1
    · rcases List.mem_cons.1 hg with rfl | hg
      · exact hh.2.1
      · exact hs.holds g (by simp [hg])
  · rcases List.mem_cons.1 hg with rfl | hg
    · exact hs.supp (HL.star g k) (by simp) b (Or.inl hb)
    · rcases List.mem_cons.1 hg with rfl | hg
      · exact hs.supp (HL.star h g) (by simp) b (Or.inr hb)
      · exact hs.supp g (by simp [hg]) b hb
  · rcases List.mem_cons.1 hg with rfl | hg
    · exact hh.2.2 b hb hgb
    · exact hp.1 g hg b (.inl hb) hgb
  · exact hp.1 g hg b (.inr hb) hgb
theorem HSub.skip {L L' : List HL} {h : HL} (hs : HSub L L') : HSub L (h :: L') := let ⟨M, h1, h2⟩ := hs; ⟨M, h1, h2.cons h⟩
/-- A heaplet by itself, all of its blocks handed over. -/
theorem Sym.own1 {w : World} {h : HL} (hh : h.holds w) (hl : ∀ b, h.supp b → b < w.heap.size) : Sym w h.supp [h] w :=
  ⟨Old.refl _ w, fun g hg => by rw [List.mem_singleton.1 hg]; exact hh, fun g hg b hb => by rw [List.mem_singleton.1 hg] at hb; exact ⟨hl b hb, .inr hb⟩, List.pairwise_singleton _ _⟩
/-- What a call of yield does: one round; it goes on. -/
def Yields (P : Program) (l : Nat) (v : Value) (w : World) (S : Nat → Prop) {σ : Type} (H : σ → HL) : Prop :=
  ∃ r : Loop, w.heap[l]? = some (.loop r) ∧ r.params.size = 1 ∧ RoundIn (FW none) 0 P l r.fn ((r.params.zip #[v]).foldl (fun tmps (t, a) => tmps.setIfInBounds t a) r.tmps) r.assign r.body w fun e w' => e = .returned (.bool true) ∧ ∃ s, Sym w S [H s] w'
section yield
variable {C : Cx} {F : Fr} {L : List HL} {o : Oper}
theorem Does.yield {x y : Operand} {ts : Array TypeId} {i l : Nat} {v : Value} {h : HL} {σ : Type} {H : σ → HL} (ho : o.op = .call { callee := .value x, args := #[y], argTypes := ts }) (hr : C.r = none) (hx : F.ev x = some (.func (.yield l) #[] #[])) (hy : F.ev y = some v) (hi : L[i]? = some h)
    (hyi : ∀ w, h.holds w → (∀ b, h.supp b → b < w.heap.size) → Yields C.P l v w h.supp H) : Does C o F L (fun _ : σ => True) (fun _ => .bool true) (fun s => L.set i (H s)) := fun a w ok next Q hn => by
  refine ⟨fun _ _ => trivial, ?_⟩
  rw [Oper.semAt_eq _ _ _ (fun c h => by rw [ho] at h; cases h)]
  obtain ⟨r, hl, hp, hround⟩ := hyi w (ok.sym.at hi) (fun b hb => (ok.sym.supp _ (List.mem_of_getElem? hi) b hb).1)
  have hyr := run_yield (P := C.P) (args := #[v]) hl (by simp [hp])
  have hrun : (execOp a.eval o).run C.P w = .ok (.round l r.fn ((r.params.zip #[v]).foldl (fun tmps (t, a) => tmps.setIfInBounds t a) r.tmps) r.assign r.body) w := by
    simp only [execOp, ho, resolve, ok.fr.ev hx]
    simp [Deferred.ofValue, invoke, ok.fr.ev hy, hyr]
  rw [hrun, Oper.uponIn_round, hr]
  refine ⟨fun h => by simp [FW] at h, hround.mono ?_⟩
  rintro e w' ⟨rfl, s, hs⟩
  refine hn s w' trivial (ok.sym.turn hi (fun b hb => ?_) hs.old (hs.holds _ (by simp)))
  have := hs.supp (H s) (by simp) b hb
  exact ⟨this.2.symm, this.1⟩
end yield
/-! ### A round -/
/-- What the body of a round must come to. -/
def RoundEnd (C : Cx) (l : Nat) (rb : Loop) {σ : Type} (H : σ → HL) : Exit → Act → World → Prop
  | .normal, _, w => ∃ s, Sym C.w0 C.S [HL.obj l (.loop rb), H s] w
  | _, _, _ => False
/-- What the assignment ahead of a round's body must come to. -/
def RoundBegin (C : Cx) (l : Nat) (rc : Loop) (body : Code) {σ : Type} (H : σ → HL) : Exit → Act → World → Prop
  | .normal, a, w => ∃ F1 L1, Ok C F1 (HL.obj l (.loop rc) :: L1) a w ∧ RunC C body (RoundEnd C l { rc with state := .busy } H) F1 (HL.obj l (.loop { rc with state := .busy }) :: L1)
  | _, _, _ => False
theorem Ends.roundEnd {C : Cx} {l : Nat} {rb : Loop} {σ : Type} {H : σ → HL} {F : Fr} {L : List HL} (s : σ) (hL : HSub [HL.obj l (.loop rb), H s] L) : Ends C .normal (RoundEnd C l rb H) F L := fun _ _ ok => ⟨s, ok.sym.sub hL⟩
theorem Ends.roundBegin {C : Cx} {l : Nat} {rc : Loop} {body : Code} {σ : Type} {H : σ → HL} {F F1 : Fr} {L L1 : List HL} (hF : F1.Sub F) (hL : HSub (HL.obj l (.loop rc) :: L1) L) (h : RunC C body (RoundEnd C l { rc with state := .busy } H) F1 (HL.obj l (.loop { rc with state := .busy }) :: L1)) :
    Ends C .normal (RoundBegin C l rc body H) F L := fun _ _ ok => ⟨F1, L1, ok.sub hF hL, h⟩
theorem Old.putObj {S : Nat → Prop} (w : World) {l : Nat} (o : Obj) (hS : S l) : Old S w (w.putObj l o) :=
  ⟨rfl, rfl, rfl, by simp, fun k _ hk => World.putObj_heap_other (fun e => hk (e ▸ hS))⟩
theorem Sym.putObj {w0 w : World} {S : Nat → Prop} {L : List HL} {i l : Nat} {o o' : Obj} (hs : Sym w0 S L w) (hi : L[i]? = some (HL.obj l o)) : Sym w0 S (L.set i (HL.obj l o')) (w.putObj l o') :=
  hs.turn hi (fun b hb => ⟨.inl hb, by rw [World.putObj_size]; exact (hs.supp _ (List.mem_of_getElem? hi) b hb).1⟩) (Old.putObj w o' rfl) (World.putObj_heap_same (hs.lt hi))
theorem yields_of_run {P : Program} {l n p : Nat} {rc : Loop} {v : Value} {w : World} {F : Fr} {K : HL} {σ : Type} {H : σ → HL} (hst : rc.state = .ready) (hpe : rc.pending = none) (hps : rc.params = #[p]) (hp : p < n) (hfr : At n [] F { tmps := rc.tmps, defers := [] })
    (hK : (HL.star (HL.obj l (.loop rc)) K).holds w) (hlt : ∀ b, (HL.star (HL.obj l (.loop rc)) K).supp b → b < w.heap.size)
    (h : RunC ⟨P, some l, n, [], w, (HL.star (HL.obj l (.loop rc)) K).supp⟩ rc.assign (RoundBegin ⟨P, some l, n, [], w, (HL.star (HL.obj l (.loop rc)) K).supp⟩ l rc rc.body H) ((p, v) :: F) [HL.obj l (.loop rc), K]) :
    Yields P l v w (HL.star (HL.obj l (.loop rc)) K).supp (fun s => HL.star (HL.obj l (.loop rc)) (H s)) := by
  refine ⟨rc, hK.1, by rw [hps]; rfl, ?_⟩
  have htm : (rc.params.zip #[v]).foldl (fun tmps (t, a) => tmps.setIfInBounds t a) rc.tmps = rc.tmps.setIfInBounds p v := by rw [hps]; simp
  rw [htm]
  refine roundIn_of_wpIn (F := FW none) trivial ?_
  refine wpIn_mono (h _ w ⟨?_, (Sym.own1 hK hlt).unstar⟩) ?_
  · exact hfr.put hp v
  · intro e a1 w1 hq
    cases e <;> try exact hq.elim
    obtain ⟨F1, L1, ok, hb⟩ := hq
    have hl1 := ok.sym.at (i := 0) rfl
    refine ⟨_, run_beginRound hl1 hst, ?_⟩
    refine wpIn_mono (hb a1 _ ⟨ok.fr, ?_⟩) ?_
    · exact ok.sym.putObj (i := 0) rfl
    · intro e a2 w2 hq
      cases e <;> try exact hq.elim
      obtain ⟨s, hq⟩ := hq
      have hq : Sym w (HL.star (HL.obj l (.loop rc)) K).supp [HL.obj l (.loop { rc with state := .busy }), H s] w2 := hq
      have hl2 := hq.at (i := 0) rfl
      refine ⟨_, _, run_endRound none hl2, rfl, s, ?_⟩
      have hre : { { rc with state := .busy } with state := if (none : Option Code).isNone then LoopState.ready else .done, pending := none } = rc := by
        cases rc; simp at hst hpe; subst hst; subst hpe; rfl
      rw [hre]
      exact (hq.putObj (i := 0) (o' := .loop rc) rfl).star
/-! ### The statement -/
def markD (D : Nat) : Deferred := { target := .collected D, args := #[] }
theorem RunC.rangeFunc {C : Cx} {F : Fr} {L R : List HL} {Q : Exit → Act → World → Prop} {g : Operand} {p : Nat} {assign body : Code} {gf N : Nat} {lb : Array Value} {V : Value} {σ : Type} (s0 : σ) (x : Nat → Value) (K : Nat → σ → HL) (hr : C.r = none) (hp : Nat.blt p C.n = true)
    (hg : F.ev g = some (.func (.func gf) #[] lb)) (hgf : ∀ args w, (callFunc gf args).run C.P w = .ok (.enter gf args) w) (hL : HSub (K 0 s0 :: R) L)
    (hround : ∀ (l : Nat) (rc : Loop) (j : Nat) (s : σ) (w : World) (S : Nat → Prop), j < N → rc.assign = assign → rc.body = body → RunC ⟨C.P, some l, C.n, [], w, S⟩ assign (RoundBegin ⟨C.P, some l, C.n, [], w, S⟩ l rc body (K (j + 1))) ((p, x j) :: F) [HL.obj l (.loop rc), K j s])
    (hcall : ∀ (l : Nat) (J : Nat → σ → HL) (w : World), Sym C.w0 C.S (J 0 s0 :: R) w → (∀ j s, j < N → ∀ w', (J j s).holds w' → (∀ b, (J j s).supp b → b < w'.heap.size) → Yields C.P l (x j) w' (J j s).supp (J (j + 1))) →
      Gives C.P gf (#[.func (.yield l) #[] #[]] ++ lb) w (J 0 s0).supp (fun _ : σ => True) (fun _ => V) (fun s => [J N s]))
    (hk : ∀ D s, Ends { C with D := markD D :: C.D } .normal Q F (K N s :: HL.obj D (.deferred (some [])) :: R)) : RunC C (.rangeFunc g #[p] assign body) Q F L := fun a w ok => by
  refine wpIn_rangeFunc fun fn _ => ?_
  rw [show (FW C.r).round = none by rw [hr]; rfl]
  let rc : Loop := { state := .ready, pending := none, fn, tmps := a.tmps, params := #[p], assign, body, defers := w.heap.size }
  let J : Nat → σ → HL := fun j s => HL.star (HL.obj (w.heap.size + 1) (.loop rc)) (K j s)
  let W1 := (w.alloc (.deferred (some []))).alloc (.loop rc)
  have hs1 : Sym C.w0 C.S (J 0 s0 :: HL.obj w.heap.size (.deferred (some [])) :: R) W1 := by
    have h1 := ((ok.sym.sub hL).alloc (.deferred (some []))).alloc (.loop rc)
    rw [World.size_alloc] at h1
    have hsb : HSub (HL.obj (w.heap.size + 1) (.loop rc) :: K 0 s0 :: HL.obj w.heap.size (.deferred (some [])) :: R) (HL.obj (w.heap.size + 1) (.loop rc) :: HL.obj w.heap.size (.deferred (some [])) :: K 0 s0 :: R) := HSub.pick 0 rfl (HSub.pick 1 rfl (HSub.pick 0 rfl (HSub.refl R)))
    exact (h1.sub hsb).star
  refine ⟨w.heap.size + 1, [markD w.heap.size], W1, { target := .fn (.func gf) lb, args := #[.func (.yield (w.heap.size + 1)) #[] #[]] }, W1, gf, #[.func (.yield (w.heap.size + 1)) #[] #[]] ++ lb, W1, run_enterLoop_outer _ _ _ _ _, ?_, fun _ _ => trivial, ?_, fun h => by simp [FW] at h, ?_⟩
  · simp only [resolve, ok.fr.ev hg]
    simp [go_sem]
  · simp [invoke, go_sem, hgf]
  · refine callsFW.2 ?_
    have hs1' : Sym C.w0 C.S (J 0 s0 :: R) W1 := hs1.sub (HSub.pick 0 rfl (HSub.skip (HSub.refl R)))
    refine Calls.mono (hcall (w.heap.size + 1) J W1 hs1' ?_) ?_
    · intro j s hj w' hh hlt
      refine yields_of_run (n := C.n) (p := p) rfl rfl rfl (Nat.le_of_ble_eq_true hp) ⟨ok.fr.size, rfl, ok.fr.slot⟩ hh hlt ?_
      exact hround _ _ j s w' _ hj rfl rfl
    · rintro e w3 ⟨s, _, rfl, hs3⟩
      have h3 := (Sym.handed (K := [J 0 s0]) (R := HL.obj w.heap.size (.deferred (some [])) :: R) hs1 (fun b hb _ => ⟨_, List.mem_singleton.2 rfl, hb⟩) hs3).unstar
      have hl3 := h3.at (i := 0) rfl
      refine ⟨none, _, run_endLoop hl3 (by simp [rc]), ?_⟩
      refine hk w.heap.size s _ _ ⟨⟨ok.fr.size, by show _ ++ a.defers = _ :: C.D; rw [ok.fr.defers]; rfl, ok.fr.slot⟩, ?_⟩
      exact (h3.putObj (i := 0) (o' := .loop { rc with state := .exhausted }) rfl).sub (HSub.skip (HSub.refl _))
/-! ### Leaving with marks -/
/-- The marks of the ranges that have run. -/
def HL.marks (Ds : List Nat) : HL := HL.all (Ds.map fun D => HL.obj D (.deferred (some [])))
theorem Sym.marks_nil {w0 w : World} {S : Nat → Prop} {L : List HL} (hs : Sym w0 S L w) : Sym w0 S (HL.marks [] :: L) w := hs.emp
theorem Sym.marks_push {w0 w : World} {S : Nat → Prop} {L : List HL} {D : Nat} {Ds : List Nat} (hs : Sym w0 S (HL.obj D (.deferred (some [])) :: HL.marks Ds :: L) w) : Sym w0 S (HL.marks (D :: Ds) :: L) w := hs.star
theorem leavesM {P : Program} {fn : Func} {tmps : Array Value} {R : Ending → World → Prop} {w0 : World} {S : Nat → Prop} {H : List HL} {v : Value} (hr : ∀ w, Sym w0 S H w → (results fn tmps).run P w = .ok v w) (hR : ∀ w, Sym w0 S H w → R (.returned v) w) :
    ∀ (Ds : List Nat) (w : World), Sym w0 S (HL.marks Ds :: H) w → LeavesInM (FW none) 0 P fn tmps R (Ds.map markD) .returning w
  | [], w, hs => by
    have h0 : Sym w0 S H w := hs.sub (HSub.skip (HSub.refl _))
    exact ⟨v, hr w h0, hR w h0⟩
  | D :: Ds, w, hs => by
    have h1 : Sym w0 S (HL.obj D (.deferred (some [])) :: HL.marks Ds :: H) w := Sym.unstar hs
    refine ⟨by simp, .inl ⟨D, _, rfl, run_takeDeferred (h1.at (i := 0) rfl), ?_⟩⟩
    exact leavesM hr hR Ds _ ((h1.putObj (i := 0) (o' := .deferred none) rfl).sub (HSub.skip (HSub.refl _)))
theorem Ends.leaveM {P : Program} {n : Nat} {w0 : World} {S : Nat → Prop} {fn : Func} {R : Ending → World → Prop} {F : Fr} {L H : List HL} {v : Value} {e : Exit} {Ds : List Nat} (he : e = .ret ∨ e = .normal) (hL : HSub (HL.marks Ds :: H) L)
    (hr : ∀ a w, Ok ⟨P, none, n, Ds.map markD, w0, S⟩ F H a w → (results fn a.tmps).run P w = .ok v w) (hR : ∀ w', Sym w0 S H w' → R (.returned v) w') : Ends ⟨P, none, n, Ds.map markD, w0, S⟩ e (bodyPostM (FW none) 0 P fn R) F L := fun a w ok => by
  have key : LeavesInM (FW none) 0 P fn a.tmps R a.defers .returning w := by
    rw [ok.fr.defers]
    exact leavesM (fun w' hs => hr a w' ⟨ok.fr, hs⟩) hR Ds w (ok.sym.sub hL)
  rcases he with rfl | rfl <;> exact key
theorem fn_of_runM {P : Program} {f : FuncId} {fn : Func} {c : Code} {args : List Value} {n : Nat} {w : World} {S : Nat → Prop} {L : List HL} {R : Ending → World → Prop}
    (hf : P.funcs[f]? = some fn) (hb : fn.body = some c) (hn : fn.ntmps = n) (hl : args.length ≤ n) (hs : Sym w S L w)
    (h : RunC ⟨P, none, n, [], w, S⟩ c (bodyPostM (FW none) 0 P fn R) (entry 0 args) L) : Calls P f args.toArray w R := by
  refine (callsFW (r := none) (n := 0)).1 (callsIn_of_wp_marks hf hb trivial ?_)
  refine h _ w ⟨⟨?_, rfl, fun t v ht => ?_⟩, hs⟩
  · simp [hn]; omega
  · obtain ⟨k, hk, hv⟩ := entry_get args 0 t v ht
    have : t = k := by omega
    subst this
    have hlt : t < args.length := (List.getElem?_eq_some_iff.1 hv).1
    simp [Array.getElem?_append, hlt]
    simpa [List.getElem?_eq_getElem hlt] using hv
/-! ### Loops in which marks are laid -/
def AgainD (C : Cx) {γ : Type} (I : γ → Prop) (μ : γ → Nat) (Dg : γ → List Nat) (Fi : γ → Fr) (Li : γ → List HL) (m : Nat) (a : Act) (w : World) : Prop := ∃ g, I g ∧ μ g < m ∧ Ok { C with D := (Dg g).map markD } (Fi g) (Li g) a w
theorem RunC.loopD {C : Cx} {c : Code} {Q : Exit → Act → World → Prop} {γ : Type} {keep F : Fr} {hkeep L : List HL} (I : γ → Prop) (μ : γ → Nat) (Dg : γ → List Nat) (chg : γ → Fr) (hchg : γ → List HL) (g0 : γ) (h0 : I g0) (hD : C.D = (Dg g0).map markD) (hF : (chg g0).Sub F) (hk : keep.Sub F) (hL : HSub (hchg g0 ++ hkeep) L)
    (round : ∀ g, I g → RunC { C with D := (Dg g).map markD } c (Exit.then (AgainD C I μ Dg (fun g => chg g ++ keep) (fun g => hchg g ++ hkeep) (μ g)) Q) (chg g ++ keep) (hchg g ++ hkeep)) : RunC C (.loop c) Q F L := fun a w ok => by
  refine wpIn_loop_g (fun g a w => I g ∧ Ok { C with D := (Dg g).map markD } (chg g ++ keep) (hchg g ++ hkeep) a w) μ g0 ⟨h0, ?_⟩ ?_
  · have := ok.sub (hF.app hk) hL
    exact ⟨⟨this.fr.size, by rw [this.fr.defers, hD], this.fr.slot⟩, this.sym⟩
  · intro g a1 w1 ⟨hg, okg⟩
    refine wpIn_mono (round g hg a1 w1 okg) ?_
    intro e a2 w2 hq
    cases e <;> first | exact hq | (obtain ⟨g', hg', hm, ok'⟩ := hq; exact ⟨g', hm, hg', ok'⟩)
theorem Ends.againD {C : Cx} {Ds : List Deferred} {Q : Exit → Act → World → Prop} {F : Fr} {L : List HL} {γ : Type} {I : γ → Prop} {μ : γ → Nat} {Dg : γ → List Nat} {Fi : γ → Fr} {Li : γ → List HL} {m : Nat} (g : γ) (hI : I g) (hm : μ g < m) (hF : (Fi g).Sub F) (hL : HSub (Li g) L) (hD : Ds = (Dg g).map markD) :
    Ends { C with D := Ds } .normal (Exit.then (AgainD C I μ Dg Fi Li m) Q) F L := fun a w ok => by
  have := ok.sub hF hL
  exact ⟨g, hI, hm, ⟨this.fr.size, by rw [this.fr.defers, hD], this.fr.slot⟩, this.sym⟩
end Go.V
/- The proof layer, part j: heaplets put together; what stays while others turn. -/
namespace Go.V
open Go
theorem Sym.unall {w0 w : World} {S : Nat → Prop} : ∀ {l L : List HL}, Sym w0 S (HL.all l :: L) w → Sym w0 S (l ++ L) w
  | [], L, hs => hs.sub (HSub.skip (HSub.refl _))
  | h :: r, L, hs => by
    have h1 : Sym w0 S (h :: HL.all r :: L) w := Sym.unstar hs
    have h2 : Sym w0 S (HL.all r :: h :: L) w := h1.sub (HSub.pick 1 rfl (HSub.refl _))
    have h3 := Sym.unall (l := r) h2
    exact h3.sub ⟨_, (List.perm_middle (l₁ := r) (a := h) (l₂ := L)).symm, List.Sublist.refl _⟩
theorem Sym.all {w0 w : World} {S : Nat → Prop} : ∀ {l L : List HL}, Sym w0 S (l ++ L) w → Sym w0 S (HL.all l :: L) w
  | [], L, hs => hs.emp
  | h :: r, L, hs => by
    have h1 : Sym w0 S (r ++ h :: L) w := hs.sub ⟨_, List.perm_middle, List.Sublist.refl _⟩
    have h2 := Sym.all (l := r) h1
    exact Sym.star (h2.sub (HSub.pick 1 rfl (HSub.refl _)))
theorem Sym.keep {w0 w w' : World} {S : Nat → Prop} {K h : HL} {R : List HL} (hs : Sym w0 S (K :: R) w) {i : Nat} (hi : R[i]? = some h) (ho : Old K.supp w w') : h.holds w' := by
  have hm := List.mem_of_getElem? hi
  refine h.loc w w' (fun b hb => ho.block b (hs.supp h (List.mem_cons_of_mem _ hm) b hb).1 (fun hk => (List.pairwise_cons.1 hs.apart).1 h hm b hk hb)) (hs.holds h (List.mem_cons_of_mem _ hm))
theorem Sym.oldK {w0 w w' : World} {K : HL} {R : List HL} (hs : Sym w0 Nil (K :: R) w) (ho : Old K.supp w w') : Old Nil w0 w' :=
  hs.old.step ho fun i hi hk => by
    rcases (hs.supp K (List.mem_cons_self ..) i hk).2 with h | h
    · omega
    · exact h
theorem Sym.ltK {w0 w : World} {S : Nat → Prop} {K : HL} {R : List HL} (hs : Sym w0 S (K :: R) w) : ∀ b, K.supp b → b < w.heap.size := fun b hb => (hs.supp K (List.mem_cons_self ..) b hb).1
theorem Ok.results1 {C : Cx} {F : Fr} {L : List HL} {a : Act} {w : World} (ok : Ok C F L a w) {fn : Func} {x : ResultVar} {v : Value} (hr : fn.results = #[x]) (h : Holds C F L x v) : (results fn a.tmps).run C.P w = .ok v w := V.results1 hr h ok
end Go.V
/- The proof layer, part k: comparison of a slice with nil. -/
namespace Go.V
open Go
section nil
variable {C : Cx} {F : Fr} {L : List HL} {o : Oper}
theorem eq_nil {P : Program} {t e : TypeId} (ht : P.underlying t = some (.slice e)) (d : Nat) (a : Option Addr) (n c : Nat) (w : World) : (Op.equalIn (d + 1) t (.slice a n c) (.slice none 0 0)).run P w = .ok a.isNone w := by
  unfold Op.equalIn
  cases a <;> simp [run_underlying ht]
theorem Still.eqlNil {xt yt e : TypeId} {x y : Operand} {a : Option Addr} {n c : Nat} (ho : o.op = .binOp .eql xt x y yt) (hx : F.ev x = some (.slice a n c)) (hy : F.ev y = some (.slice none 0 0)) (ht : C.P.underlying xt = some (.slice e)) : Still C o F L (.bool a.isNone) :=
  ⟨fun c h => (by rw [ho] at h; cases h), fun a w ok => by
    have := eq_nil ht 9999 ‹Option Addr› n c w
    simp only [execOp, ho, ok.fr.ev hx, ok.fr.ev hy]; simp [eqGuard, binOp, Op.equal, Op.maxDepth, this]⟩
theorem Still.build_0 {t : TypeId} (g : Value) (ho : o.op = .build t #[]) (hr : ∀ w, (Instr.build t #[]).run C.P w = .ok g w) : Still C o F L g := Still.build (vs := #[]) ho (by simp) hr
end nil
end Go.V
/- The proof layer, part l: strings. -/
namespace Go.V
open Go
section str
variable {C : Cx} {F : Fr} {L : List HL} {o : Oper}
theorem eqGuard_str (op : BinOp) (t : TypeId) (x y : Operand) (s u : ByteArray) : eqGuard op t x y (.string s) (.string u) = pure () := by
  cases op <;> rfl
theorem Still.cat {xt yt : TypeId} {x y : Operand} {s u : ByteArray} (ho : o.op = .binOp .add xt x y yt) (hx : F.ev x = some (.string s)) (hy : F.ev y = some (.string u)) (hl : s.size + u.size ≤ 9223372036854775807) : Still C o F L (.string (s ++ u)) :=
  ⟨fun c h => (by rw [ho] at h; cases h), fun a w ok => by
    have h : ¬ (((s.size + u.size : Nat) : Int) > IntKind.i64.max) := by simp [IntKind.max, IntKind.bits, IntKind.signed]; omega
    simp only [execOp, ho, ok.fr.ev hx, ok.fr.ev hy, eqGuard_str]
    simp [binOp, Op.stringOp]; omega⟩
theorem Still.eqlStr {xt yt : TypeId} {x y : Operand} {s u : ByteArray} (ho : o.op = .binOp .eql xt x y yt) (hx : F.ev x = some (.string s)) (hy : F.ev y = some (.string u)) : Still C o F L (.bool (s.toList == u.toList)) :=
  ⟨fun c h => (by rw [ho] at h; cases h), fun a w ok => by
    simp only [execOp, ho, ok.fr.ev hx, ok.fr.ev hy, eqGuard_str]
    simp [binOp, Op.stringOp]⟩
/-- A string that is known. -/
theorem Still.eqlStrT {xt yt : TypeId} {x y : Operand} {s u : ByteArray} (ho : o.op = .binOp .eql xt x y yt) (hx : F.ev x = some (.string s)) (hy : F.ev y = some (.string u)) (he : s = u) : Still C o F L (.bool true) := by
  have := Still.eqlStr (C := C) (L := L) ho hx hy
  rwa [he, beq_self_eq_true] at this
/-- 's[:i]'. -/
theorem Still.sliceTo {t e : TypeId} {x y : Operand} {base : Option Addr} {n cap i size : Nat} {k : IntKind} (ho : o.op = .slice t x none (some y) none) (hx : F.ev x = some (.slice base n cap)) (hy : F.ev y = some (.int k (i : Int))) (ht : C.P.underlying t = some (.slice e)) (hz : ∀ w, (sizeOf e).run C.P w = .ok size w)
    (hi : i ≤ cap) : Still C o F L (.slice base i cap) :=
  ⟨fun c h => (by rw [ho] at h; cases h), fun a w ok => by
    have e0 : ∀ A : Addr, A.add 0 = A := fun A => by simp [Addr.add]
    simp only [execOp, ho, ok.fr.ev hx, Option.map, ok.fr.ev hy]
    by_cases h0 : cap = 0
    · obtain rfl : i = 0 := by omega
      cases base <;> simp [Instr.sliceAt, Instr.slice, run_underlying ht, Instr.sliceBounds, Instr.sliceBound, asIntOf, hz, e0, h0]
    · cases base <;> simp [Instr.sliceAt, Instr.slice, run_underlying ht, Instr.sliceBounds, Instr.sliceBound, asIntOf, hz, hi, e0]⟩
end str
end Go.V
/- The proof layer, part m: a slot's value in other words, inside a region that draws. -/
namespace Go.V
open Go
theorem RunG.again {C : Cx} {ops : Array Oper} {T : Act → World → Prop} {π : Plan} {F : Fr} {L : List HL} {t : Nat} {v u : Value} (hv : F.get t = some v) (e : v = u) (h : RunG C ops T π ((t, u) :: F) L) : RunG C ops T π F L := fun a w ok => h a w (ok.again hv e)
/-- A nil slice is appended: nothing happens. -/
theorem run_append_nothing {P : Program} {w : World} {t ty e : TypeId} {i : TypeInfo} {size : Nat} (ht : P.underlying t = some (.slice e)) (hi : P.info? e = some i) {v : Value} {p : Option Addr} {n c : Nat} {xs : List Value} (hown : w.ownsRow 0 e size v n xs) :
    (Builtin.append_ #[t, t] ty #[v, .slice p 0 c]).run P w = .ok v w := by
  rcases hown.2 with ⟨rfl, rfl⟩ | ⟨g, cap, cur, rfl, _, _, hnc, _⟩
  · cases p <;> simp [Builtin.append_, run_underlying ht, sizeOf, typeInfo, hi, Builtin.lenOf, Builtin.firstCells, loadCells, loadCellsFrom]
  · cases p <;> simp [Builtin.append_, run_underlying ht, sizeOf, typeInfo, hi, Builtin.lenOf, Builtin.firstCells, hnc, storeCells, loadCells, loadCellsFrom]
theorem Still.appendNil {C : Cx} {F : Fr} {L : List HL} {o : Oper} {t e ty : TypeId} {x y : Operand} {i n k m c : Nat} {q : TypeInfo} {p : Option Addr} {v : Value} {xs : List Value} (ho : o.op = .call { callee := .builtin .append, args := #[x, y], argTypes := #[t, t] }) (hty : o.type = ty)
    (hx : F.ev x = some v) (hy : F.ev y = some (.slice p m c)) (hm : m = 0) (hi : L[i]? = some (HL.own e k v n xs)) (ht : C.P.underlying t = some (.slice e)) (hinf : C.P.info? e = some q) : Still C o F L v :=
  ⟨fun c h => (by rw [ho] at h; cases h), fun a w ok => by
    subst hm
    have hown : w.ownsRow 0 e k v n xs := ok.sym.at hi
    obtain ⟨d, op, ty', ps, af, g⟩ := o
    subst ho; subst hty
    rw [BigFrame.execOp_builtin, BigFrame.builtin_append]
    simp [ok.fr.ev hx, ok.fr.ev hy, run_append_nothing (P := C.P) ht hinf hown]⟩
/-- Something is appended to an empty slice without room: a new block is made. -/
theorem Grows.appendNew {C : Cx} {F : Fr} {L : List HL} {o : Oper} {t e ty : TypeId} {x y : Operand} {k m c bytes : Nat} {b : Addr} {z : Value} {news : List Value} {A : Addr} (ho : o.op = .call { callee := .builtin .append, args := #[x, y], argTypes := #[t, t] }) (hty : o.type = ty)
    (hx : F.ev x = some (.slice (some b) 0 0)) (hy : F.ev y = some (.slice (some A) m c)) (h0 : 0 < m) (ht : C.P.underlying t = some (.slice e))
    (hinf : (C.P.info? e).map (fun i => (i.zero, i.size, i.bytes)) = some (some z, k, bytes)) (hzs : z.cells.size = k)
    (hnews : ∀ w, Sym C.w0 C.S L w → Cells w A news) (hl : news.length = m * k) (hb : m * bytes ≤ 140737488355328) (hm : m ≤ 9223372036854775807) :
    Grows C o F L (fun v : Value => Shape v m) (fun v => v) (fun v => [HL.own e k v m news]) := fun a w ok next Q h => by
  obtain ⟨inf, hi0, hi1, hi2, hi3⟩ := info_parts hinf
  subst hi2; subst hi3
  have hr := run_append_grow (P := C.P) (w := w) t ty e inf z ht hi0 hi1 b 0 0 [] (by simp) (by simp) A m c news hl (fun j u hj => hnews w ok.sym j u hj) (by omega) (by omega) (growslice_fits (by omega) (by rw [Nat.zero_add]; exact hb))
  have hge := grownCap_ge w (0 + m) 0 e
  have hcm : grownCap w (0 + m) 0 e ≤ maxLen := grownCap_le_maxLen w (0 + m) 0 e (by show 0 + m ≤ 9223372036854775807; omega)
  have hs := ok.sym.drew.alloc (.cells ((([] : List Value)).toArray ++ news.toArray ++ Builtin.zeroCells z.cells (grownCap w (0 + m) 0 e - (0 + m))) e)
  refine wpIn_value (fun c h => (by rw [ho] at h; cases h)) (v := .slice (some ⟨w.heap.size, 0, none⟩) (0 + m) (grownCap w (0 + m) 0 e)) (w' := w.drew.alloc (.cells ((([] : List Value)).toArray ++ news.toArray ++ Builtin.zeroCells z.cells (grownCap w (0 + m) 0 e - (0 + m))) e)) ?_ (h (.slice (some ⟨w.heap.size, 0, none⟩) (0 + m) (grownCap w (0 + m) 0 e)) _ ?_ ((Old.drew Nil w).trans (Old.alloc Nil w.drew _)) (hs.weaken (fun hh => ?_) (fun b hb => ?_)))
  · obtain ⟨d, op, ty', ps, af, g⟩ := o
    subst ho; subst hty
    rw [BigFrame.execOp_builtin, BigFrame.builtin_append]
    simp [ok.fr.ev hx, ok.fr.ev hy, hr]
  · rw [Nat.zero_add]; exact ⟨_, _, rfl, fun _ => rfl⟩
  · refine ⟨hl, .inr ⟨w.heap.size, _, _, by rw [Nat.zero_add], Nat.zero_le _, hh, by omega, hcm, ?_, ?_⟩⟩
    · simp only [Array.size_append, List.size_toArray, size_zeroCells, hzs, List.length_nil, hl, Nat.zero_add, ← Nat.add_mul]
      have hge2 := hge
      rw [Nat.zero_add] at hge2
      congr 1
      omega
    · simp only [Array.toList_append, List.nil_append, ← hl]
      exact List.take_left
  · have e1 : some w.heap.size = some b := hb
    cases e1; rfl
end Go.V
/- The proof layer, part n: regions that draw their order, with stores into what they have just made: what looks is shown at the world in which the region begins; what makes and stores leaves that world as it is. -/
namespace Go.V
open Go
section drawB
variable {r : Option Nat} {P : Program} {ops : Array Oper} {md : Region.Mode}
def wpHeadB (r : Option Nat) (P : Program) (md : Region.Mode) (ops : Array Oper) (n : Nat) (B : World) (E : Array Bool → Act → World → Prop) : Nat → Array Bool → Act → World → Prop
  | 0, listed, a, w => E listed a w
  | f + 1, listed, a, w => Region.ready md ops listed ≠ [] ∧ ∀ i ∈ Region.ready md ops listed, i < n ∧ wpOpIn (FW r) 0 P ops NoQ i (fun a' w' => Old Nil B w' ∧ wpHeadB r P md ops n B E f (listed.setIfInBounds i true) a' w') a w
theorem wpAny_of_headB {n g : Nat} {B : World} {E : Array Bool → Act → World → Prop} {Q : Exit → Act → World → Prop} (hE : ∀ listed a w, E listed a w → wpAnyIn (FW r) 0 P md ops Q g listed a w) :
    ∀ (f : Nat) (listed : Array Bool) (a : Act) (w : World), wpHeadB r P md ops n B E f listed a w → wpAnyIn (FW r) 0 P md ops Q (f + g) listed a w
  | 0, listed, a, w, h => by rw [Nat.zero_add]; exact hE _ _ _ h
  | f + 1, listed, a, w, h => by
    rw [show f + 1 + g = (f + g) + 1 by omega]
    exact ⟨fun h0 => absurd h0 h.1, fun i hi => opIn_Q (wpOpIn_mono (fun a' w' h' => wpAny_of_headB hE f _ a' w' h'.2) (h.2 i hi).2)⟩
theorem Yields'.opInB {i : Nat} {o : Oper} {v : Value} {a : Act} {w B : World} {Q : Exit → Act → World → Prop} (hi : ops[i]? = some o) (hd : ∀ c, o.op ≠ .defer c) (h : Yields' P ops o v a B) (hB : Old Nil B w) {K : Act → World → Prop} (hk : K (a.put o.dst v) w) : wpOpIn (FW r) 0 P ops Q i K a w := by
  have h' : Yields' P ops o v a w := h.later hB
  exact h'.opIn hi hd hk
theorem wpHeadB_first {n i : Nat} {oi : Oper} {v : Value} {B : World} {E : Array Bool → Act → World → Prop} (hi : ops[i]? = some oi) (hsel : Region.noSelect ops = true) (hdef : noDefer ops = true)
    (hs : Region.sinkB md ops n = true) (hc : Region.chainB md ops n = true) (hn : n < ops.size) (hin : i < n)
    (hdone : ∀ listed a w, E listed a w → ∀ j ∈ Region.ready md ops listed, n ≤ j) :
    ∀ (f : Nat) (listed : Array Bool) (a : Act) (w : World), HeadInv md ops n listed →
      (∀ j oj, ops[j]? = some oj → j ≠ i → listed.getD j true = false → (∀ e ∈ oj.after, Region.binds md e = true → e.on ≠ i) → oi.apart ops oj = true) →
      i ∈ Region.ready md ops listed → Yields' P ops oi v a B → Old Nil B w →
      wpHeadB r P md ops n B E f (listed.setIfInBounds i true) (a.put oi.dst v) w → wpHeadB r P md ops n B E (f + 1) listed a w := by
  intro f
  induction f with
  | zero =>
    intro listed a w inv _ hr hy hB H
    have hun := (mem_ready.1 hr).1
    refine ⟨fun h => (by rw [h] at hr; cases hr), fun j hj => ?_⟩
    have hjn : j < n := by
      rcases Nat.lt_or_ge j n with h | h
      · exact h
      · exact absurd hj (tail_waits hs hc hn inv _ i rfl hin hun j h)
    refine ⟨hjn, ?_⟩
    by_cases hji : j = i
    · subst hji; exact hy.opInB hi (fun c => noDefer_spec hdef j oi c hi) hB ⟨hB, H⟩
    · have := hdone _ _ _ H j (ready_mono hj hji)
      omega
  | succ f ih =>
    intro listed a w inv hfree hr hy hB H
    have hun := (mem_ready.1 hr).1
    refine ⟨fun h => (by rw [h] at hr; cases hr), fun j hj => ?_⟩
    have hjn : j < n := by
      rcases Nat.lt_or_ge j n with h | h
      · exact h
      · exact absurd hj (tail_waits hs hc hn inv _ i rfl hin hun j h)
    refine ⟨hjn, ?_⟩
    by_cases hji : j = i
    · subst hji; exact hy.opInB hi (fun c => noDefer_spec hdef j oi c hi) hB ⟨hB, H⟩
    · have h1 := (H.2 j (ready_mono hj hji)).2
      obtain ⟨hjun, oj, hoj, hall⟩ := mem_ready.1 hj
      have hnot : ∀ e ∈ oj.after, Region.binds md e = true → e.on ≠ i := fun e he hb heq => by
        have h1 := hall e he hb
        rw [heq, getD_both hun] at h1
        cases h1
      have hap := hfree j oj hoj hji hjun hnot
      have h2 := opIn_put hoj hap (fun cs b => Region.noSelect_spec hsel j oj cs b hoj) (fun c => noDefer_spec hdef j oj c hoj) h1
      have hfree' : ∀ k ok, ops[k]? = some ok → k ≠ i → (listed.setIfInBounds j true).getD k true = false →
          (∀ e ∈ ok.after, Region.binds md e = true → e.on ≠ i) → oi.apart ops ok = true := fun k ok hk hki hun hno => by
        refine hfree k ok hk hki ?_ hno
        by_cases hjk : j = k
        · subst hjk; exact hjun
        · rw [getD_set_ne true hjk] at hun; exact hun
      refine wpOpIn_mono (fun a' w' h3 => ⟨h3.2.1, ?_⟩) h2
      refine ih (listed.setIfInBounds j true) a' w' (inv.set hj hjn) hfree' (ready_mono hr (Ne.symm hji)) (hy.but (fun cs b => Region.noSelect_spec hsel i oi cs b hi) h3.1 (Oper.apart_spec hap).2.2) h3.2.1 ?_
      rw [Array.setIfInBounds_comm _ _ hji]
      exact h3.2.2
def GoesOnB (r : Option Nat) (P : Program) (ops : Array Oper) (B : World) (T : Act → World → Prop) : Plan → Act → World → Prop
  | .done, a, w => T a w
  | .still i p, a, w => ∃ o v, ops[i]? = some o ∧ Yields' P ops o v a B ∧ GoesOnB r P ops B T p (a.put o.dst v) w
  | .one i p, a, w => wpOpIn (FW r) 0 P ops NoQ i (fun a' w' => Old Nil B w' ∧ GoesOnB r P ops B T p a' w') a w
  | .two i p j q, a, w => wpOpIn (FW r) 0 P ops NoQ i (fun a' w' => Old Nil B w' ∧ GoesOnB r P ops B T p a' w') a w ∧ wpOpIn (FW r) 0 P ops NoQ j (fun a' w' => Old Nil B w' ∧ GoesOnB r P ops B T q a' w') a w
  | .three i p j q k s, a, w => wpOpIn (FW r) 0 P ops NoQ i (fun a' w' => Old Nil B w' ∧ GoesOnB r P ops B T p a' w') a w ∧ wpOpIn (FW r) 0 P ops NoQ j (fun a' w' => Old Nil B w' ∧ GoesOnB r P ops B T q a' w') a w ∧ wpOpIn (FW r) 0 P ops NoQ k (fun a' w' => Old Nil B w' ∧ GoesOnB r P ops B T s a' w') a w
theorem wpHeadB_of_goes {n g : Nat} {B : World} {T : Act → World → Prop} (hsel : Region.noSelect ops = true) (hdef : noDefer ops = true) (hs : Region.sinkB md ops n = true) (hc : Region.chainB md ops n = true) (hn : n < ops.size) :
    ∀ (π : Plan) (listed : Array Bool) (a : Act) (w : World), HeadInv md ops n listed → lexG md ops n g π listed = true → Old Nil B w → GoesOnB r P ops B T π a w →
    wpHeadB r P md ops n B (fun listed' a' w' => Region.seqB md ops g n listed' = true ∧ T a' w') π.len listed a w
  | .done, listed, a, w, _, hB, _, h => ⟨hB, h⟩
  | .still k π, listed, a, w, inv, hB, hO, h => by
    simp only [lexG, Bool.and_eq_true] at hB
    obtain ⟨⟨⟨hr, hf⟩, hkn⟩, hB'⟩ := hB
    have hkn' : k < n := by simpa using hkn
    obtain ⟨o, v, ho, hy, hK⟩ := h
    have hr' : k ∈ Region.ready md ops listed := by simpa using hr
    exact wpHeadB_first ho hsel hdef hs hc hn hkn' (fun listed' a' w' hL => seqB_ready hL.1) π.len listed a w inv (Region.free_spec ho hf) hr' hy hO
      (wpHeadB_of_goes hsel hdef hs hc hn π _ _ _ (inv.set hr' hkn') hB' hO hK)
  | .one k π, listed, a, w, inv, hB, hO, h => by
    simp only [lexG, Bool.and_eq_true, decide_eq_true_eq] at hB
    obtain ⟨⟨hr, hkn⟩, hB'⟩ := hB
    have hkn' : k < n := by simpa using hkn
    refine ⟨by rw [hr]; simp, fun i hi => ?_⟩
    rw [hr] at hi
    have hik : i = k := by simpa using hi
    subst hik
    exact ⟨hkn', wpOpIn_mono (fun a' w' h3 => ⟨h3.1, wpHeadB_of_goes hsel hdef hs hc hn π _ _ _ (inv.set (by rw [hr]; simp) hkn') hB' h3.1 h3.2⟩) h⟩
  | .two k p l q, listed, a, w, inv, hB, hO, h => by
    simp only [lexG, Bool.and_eq_true, decide_eq_true_eq] at hB
    obtain ⟨⟨⟨⟨⟨hr, hkn⟩, hln⟩, hlen⟩, hB1⟩, hB2⟩ := hB
    have hlen' : p.len = q.len := Nat.eq_of_beq_eq_true hlen
    have hkn' : k < n := by simpa using hkn
    have hln' : l < n := by simpa using hln
    refine ⟨by rw [hr]; simp, fun i hi => ?_⟩
    rw [hr] at hi
    have hik : i = k ∨ i = l := by simpa using hi
    rcases hik with rfl | rfl
    · exact ⟨hkn', wpOpIn_mono (fun a' w' h3 => ⟨h3.1, wpHeadB_of_goes hsel hdef hs hc hn p _ _ _ (inv.set (by rw [hr]; simp) hkn') hB1 h3.1 h3.2⟩) h.1⟩
    · exact ⟨hln', wpOpIn_mono (fun a' w' h3 => ⟨h3.1, by
        show wpHeadB _ _ _ _ _ _ _ p.len _ _ _
        rw [hlen']; exact wpHeadB_of_goes hsel hdef hs hc hn q _ _ _ (inv.set (by rw [hr]; simp) hln') hB2 h3.1 h3.2⟩) h.2⟩
  | .three k p l q m s, listed, a, w, inv, hB, hO, h => by
    simp only [lexG, Bool.and_eq_true, decide_eq_true_eq] at hB
    obtain ⟨⟨⟨⟨⟨⟨⟨⟨hr, hkn⟩, hln⟩, hmn⟩, hlen⟩, hlen2⟩, hB1⟩, hB2⟩, hB3⟩ := hB
    have hlen' : p.len = q.len := Nat.eq_of_beq_eq_true hlen
    have hlen2' : p.len = s.len := Nat.eq_of_beq_eq_true hlen2
    have hkn' : k < n := by simpa using hkn
    have hln' : l < n := by simpa using hln
    have hmn' : m < n := by simpa using hmn
    refine ⟨by rw [hr]; simp, fun i hi => ?_⟩
    rw [hr] at hi
    have hik : i = k ∨ i = l ∨ i = m := by simpa using hi
    rcases hik with rfl | rfl | rfl
    · exact ⟨hkn', wpOpIn_mono (fun a' w' h3 => ⟨h3.1, wpHeadB_of_goes hsel hdef hs hc hn p _ _ _ (inv.set (by rw [hr]; simp) hkn') hB1 h3.1 h3.2⟩) h.1⟩
    · exact ⟨hln', wpOpIn_mono (fun a' w' h3 => ⟨h3.1, by
        show wpHeadB _ _ _ _ _ _ _ p.len _ _ _
        rw [hlen']; exact wpHeadB_of_goes hsel hdef hs hc hn q _ _ _ (inv.set (by rw [hr]; simp) hln') hB2 h3.1 h3.2⟩) h.2.1⟩
    · exact ⟨hmn', wpOpIn_mono (fun a' w' h3 => ⟨h3.1, by
        show wpHeadB _ _ _ _ _ _ _ p.len _ _ _
        rw [hlen2']; exact wpHeadB_of_goes hsel hdef hs hc hn s _ _ _ (inv.set (by rw [hr]; simp) hmn') hB3 h3.1 h3.2⟩) h.2.2⟩
theorem wpIn_drawB {id : Nat} {Q : Exit → Act → World → Prop} {a : Act} {w : World} {l : List Oper} (n : Nat) (π : Plan) (hm : P.follows .mixedOrders = true) (hB : drawB l.toArray n π = true)
    (h : GoesOnB r P l.toArray w.drew (fun a' w' => wpListIn (FW r) 0 P l.toArray Q (l.drop n) a' w') π a w.drew) : (Code.region id l.toArray true).wpIn (FW r) 0 P Q a w := by
  simp only [drawB, Bool.and_eq_true] at hB
  obtain ⟨⟨⟨⟨⟨⟨hsel, hdef⟩, hn⟩, hs⟩, hc⟩, hlen⟩, hlex⟩ := hB
  have hn' : n < l.length := by simpa using hn
  have hpl : π.len = n := Nat.eq_of_beq_eq_true hlen
  have hdl : (l.drop n).length = l.toArray.size - n := by simp
  have inv0 : HeadInv .any l.toArray n (Array.replicate l.toArray.size false) :=
    ⟨by simp, fun j oj _ hl => (by rw [getD_replicate_false] at hl; cases hl), fun t _ ht => getD_in (by simpa using ht) (getD_replicate_false _ _)⟩
  have H := wpHeadB_of_goes (r := r) (P := P) (md := .any) (g := l.toArray.size - n) hsel hdef hs hc (by simpa using hn') π _ a w.drew inv0 hlex (Old.refl _ _) h
  refine wpIn_region_any hm ?_
  have := wpAny_of_headB (Q := Q) (g := l.toArray.size - n) (fun listed a' w' hL => by
    have := wpAny_of_seq' (r := r) (P := P) (md := .any) (Q := Q) (l.drop n) n listed a' w' (fun j => by simp [List.getElem?_drop]) (by rw [hdl]; exact hL.1) hL.2
    rwa [hdl] at this) _ _ _ _ H
  rw [hpl, show n + (l.toArray.size - n) = l.toArray.size by simp; omega] at this
  exact this
end drawB
/-- The looking part of such a region: the world is the one in which it began. -/
def RunH (C : Cx) (ops : Array Oper) (T : Act → World → Prop) (π : Plan) (F : Fr) (L : List HL) : Prop := ∀ a w, Ok C F L a w → GoesOnB C.r C.P ops w T π a w
/-- The making part: the blocks ns are new since the region began. -/
def RunN (C : Cx) (ops : Array Oper) (T : Act → World → Prop) (ns : List Nat) (π : Plan) (F : Fr) (L : List HL) : Prop := ∀ a w B, Old Nil B w → (∀ b ∈ ns, B.heap.size ≤ b) → Ok C F L a w → GoesOnB C.r C.P ops B T π a w
section
variable {C : Cx} {Q : Exit → Act → World → Prop} {F : Fr} {L : List HL} {ops : Array Oper} {o : Oper} {T : Act → World → Prop} {π : Plan} {i : Nat} {ns : List Nat}
theorem RunC.drawH {id : Nat} {l : List Oper} (n : Nat) (π : Plan) (hm : C.P.follows .mixedOrders = true) (hB : drawB l.toArray n π = true)
    (h : RunH C l.toArray (fun a' w' => wpListIn (FW C.r) 0 C.P l.toArray Q (l.drop n) a' w') π F L) : RunC C (.region id l.toArray true) Q F L := fun a w ok => wpIn_drawB n π hm hB (h a w.drew ⟨ok.fr, ok.sym.drew⟩)
theorem RunH.still {d : Nat} {v : Value} (ho : ops[i]? = some o) (hw : wants ops F o = some true) (hd : o.dst = some d) (hn : Nat.blt d C.n = true) (hs : Still C o F L v) (h : RunH C ops T π ((d, v) :: F) L) : RunH C ops T (.still i π) F L := fun a w ok => by
  refine ⟨o, v, ho, .inl ⟨wants_ok ok hw, fun w' hold => hs.2 a w' ⟨ok.fr, ok.sym.grow0 hold⟩⟩, h _ w ?_⟩
  rw [hd]
  exact ⟨ok.fr.put (by simpa using hn) v, ok.sym⟩
theorem RunH.again {t : Nat} {v u : Value} (hv : F.get t = some v) (e : v = u) (h : RunH C ops T π ((t, u) :: F) L) : RunH C ops T π F L := fun a w ok => h a w (ok.again hv e)
theorem RunH.news (h : RunN C ops T [] π F L) : RunH C ops T π F L := fun a w ok => h a w w (Old.refl _ w) (fun _ h => by cases h) ok
theorem RunN.two {j : Nat} {p q : Plan} (h1 : RunN C ops T ns (.one i p) F L) (h2 : RunN C ops T ns (.one j q) F L) : RunN C ops T ns (.two i p j q) F L := fun a w B hO hn ok => ⟨h1 a w B hO hn ok, h2 a w B hO hn ok⟩
theorem RunN.three {j k : Nat} {p q s : Plan} (h1 : RunN C ops T ns (.one i p) F L) (h2 : RunN C ops T ns (.one j q) F L) (h3 : RunN C ops T ns (.one k s) F L) : RunN C ops T ns (.three i p j q k s) F L := fun a w B hO hn ok => ⟨h1 a w B hO hn ok, h2 a w B hO hn ok, h3 a w B hO hn ok⟩
theorem RunN.alloc {d : Nat} {t : TypeId} {z : Value} (ho : ops[i]? = some o) (hw : wants ops F o = some true) (hd : o.dst = some d) (hn : Nat.blt d C.n = true) (hop : o.op = .alloc t) (hz : ∀ w, (zeroValue t).run C.P w = .ok z w)
    (h : ∀ b, RunN C ops T (b :: ns) π ((d, .pointer (some ⟨b, 0, none⟩)) :: F) (HL.obj b (.cells z.cells t (0, 0)) :: L)) : RunN C ops T ns (.one i π) F L := fun a w B hO hns ok => by
  show wpOpIn _ _ _ _ _ _ _ _ _
  unfold wpOpIn
  simp only [ho, wants_ok ok hw, if_true]
  have hr : (execOp a.eval o).run C.P w = .ok (.value (.pointer (some ⟨w.heap.size, 0, none⟩))) (w.alloc (.cells z.cells t (0, 0))) := by simp [execOp, hop, Instr.alloc, hz, newVar, newRow]
  refine wpIn_value (fun c h => (by rw [hop] at h; cases h)) hr ?_
  have hO2 := hO.trans (Old.alloc Nil w (.cells z.cells t (0, 0)))
  refine ⟨hO2, h w.heap.size _ _ B hO2 (fun b hb => ?_) ?_⟩
  · rcases List.mem_cons.1 hb with rfl | hb
    · exact hO.size
    · exact hns b hb
  · rw [hd]
    exact ⟨ok.fr.put (by simpa using hn) _, ok.sym.alloc _⟩
theorem RunN.store {t : TypeId} {x y : Operand} {m b k n : Nat} {cs : Array Value} {e : TypeId} {v : Value} (ho : ops[i]? = some o) (hw : wants ops F o = some true) (hd : o.dst = none) (hop : o.op = .store t x y) (hx : F.ev x = some (.pointer (some ⟨b, k, none⟩))) (hy : F.ev y = some v)
    (hi : L[m]? = some (HL.obj b (.cells cs e (0, 0)))) (hz : ∀ w, (sizeOf t).run C.P w = .ok n w) (hn : v.cells.size = n) (hk : Nat.ble (k + n) cs.size = true) (h1 : v.cells.toList.all Value.oneCell' = true) (hb : b ∈ ns)
    (h : RunN C ops T ns π F (L.set m (HL.obj b (.cells (putAll cs k v.cells.toList) e (0, 0))))) : RunN C ops T ns (.one i π) F L := fun a w B hO hns ok => by
  show wpOpIn _ _ _ _ _ _ _ _ _
  unfold wpOpIn
  simp only [ho, wants_ok ok hw, if_true]
  obtain ⟨w', hr, hh, hold, hsz⟩ := run_storeCells_own (P := C.P) v.cells.toList 0 k cs w (ok.sym.at hi) (by have := Nat.le_of_ble_eq_true hk; simp [hn]; omega) (List.all_eq_true.1 h1)
  simp only [Nat.add_zero] at hh
  refine wpIn_skip' (fun c h => (by rw [hop] at h; cases h)) (w' := w') ?_ ?_
  · simp only [execOp, hop, ok.fr.ev hx, ok.fr.ev hy]
    simp [Instr.storeAt, Instr.sureAddr, storeVar, hn, hz, hr]
  · have hO2 : Old Nil B w' := ⟨hold.os.trans hO.os, hold.tape.trans hO.tape, hold.output.trans hO.output, Nat.le_trans hO.size hold.size, fun c hc hn' => (hold.block c (Nat.lt_of_lt_of_le hc hO.size) (fun e => by
      have e : c = b := e
      have := hns b hb
      omega)).trans (hO.block c hc hn')⟩
    refine ⟨hO2, h _ w' B hO2 hns ?_⟩
    rw [hd]
    exact ⟨ok.fr, ok.sym.turn hi (fun c hc => ⟨.inl hc, by have e : c = b := hc; subst e; rw [hsz]; exact ok.sym.lt hi⟩) hold hh⟩
theorem RunN.done {l : List Oper} (h : RunL C ops Q l F L) : RunN C ops (fun a' w' => wpListIn (FW C.r) 0 C.P ops Q l a' w') ns .done F L := fun a w _ _ _ ok => h a w ok
end
end Go.V
