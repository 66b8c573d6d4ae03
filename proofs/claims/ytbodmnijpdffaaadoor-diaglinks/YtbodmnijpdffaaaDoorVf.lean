/- The proof layer, part f: slices that the call owns, read and written without opening them; rows of slices. -/
import Derived.Test.YtbodmnijpdffaaaDoorVe
import Derived.ChangeKeysEq
namespace Go.V
open Go
def vaddr : Value → Addr
  | .slice (some a) _ _ => a
  | _ => ⟨0, 0, none⟩
theorem own_addr {w : World} {e k n : Nat} {v : Value} {xs : List Value} (h : w.ownsRow 0 e k v n xs) (hn : 0 < n) :
    ∃ g cap cur, v = .slice (some ⟨g, 0, none⟩) n cap ∧ w.heap[g]? = some (.cells cur e (0, 0)) ∧ cur.size = cap * k ∧ n ≤ cap ∧ cur.toList.take (n * k) = xs := by
  rcases h.2 with ⟨_, h0⟩ | ⟨g, cap, cur, hv, _, hg, hnc, _, hcs, ht⟩
  · omega
  · exact ⟨g, cap, cur, hv, hg, hcs, hnc, ht⟩
theorem own_at {w : World} {e k n : Nat} {v u : Value} {xs : List Value} {j : Nat} (h : w.ownsRow 0 e k v n xs) (hj : xs[j]? = some u) : w.cell? ((vaddr v).add j) = some u := by
  rcases h.2 with ⟨_, h0⟩ | ⟨g, cap, cur, hv, _, hg, hnc, _, hcs, ht⟩
  · have := h.1
    rw [h0] at this
    have hx : xs = [] := List.eq_nil_of_length_eq_zero (by simpa using this)
    rw [hx] at hj; simp at hj
  · subst hv
    show w.cell? ((⟨g, 0, none⟩ : Addr).add j) = some u
    rw [add_new, Nat.zero_add]
    refine cell_of_obj hg ?_
    rw [← ht] at hj
    rw [List.getElem?_take] at hj
    split at hj
    · simpa using hj
    · cases hj
theorem own_at2 {w : World} {e k n : Nat} {v u : Value} {xs : List Value} {i j : Nat} (h : w.ownsRow 0 e k v n xs) (hj : xs[i + j]? = some u) : w.cell? (((vaddr v).add i).add j) = some u := by
  rw [add_add]; exact own_at h hj
theorem own_at3 {w : World} {e k n : Nat} {v u : Value} {xs : List Value} {i j l : Nat} (h : w.ownsRow 0 e k v n xs) (hj : xs[i + j + l]? = some u) : w.cell? ((((vaddr v).add i).add j).add l) = some u := by
  rw [add_add, add_add, ← Nat.add_assoc]; exact own_at h hj
theorem own_cells {w : World} {e k n : Nat} {v : Value} {xs us : List Value} {i : Nat} (h : w.ownsRow 0 e k v n xs) (hj : ∀ j u, us[j]? = some u → xs[i + j]? = some u) : Cells w ((vaddr v).add i) us := fun j u hu => own_at2 h (hj j u hu)
theorem own_cells2 {w : World} {e k n : Nat} {v : Value} {xs us : List Value} {i l : Nat} (h : w.ownsRow 0 e k v n xs) (hj : ∀ j u, us[j]? = some u → xs[i + l + j]? = some u) : Cells w (((vaddr v).add i).add l) us := fun j u hu => own_at3 h (hj j u hu)
theorem own_all {w : World} {e k n : Nat} {v : Value} {xs : List Value} (h : w.ownsRow 0 e k v n xs) : Cells w (vaddr v) xs := fun _ _ hu => own_at h hu
theorem Sym.own {w0 w : World} {S : Nat → Prop} {L : List HL} (hs : Sym w0 S L w) {i e k n : Nat} {v : Value} {xs : List Value} (hi : L[i]? = some (HL.own e k v n xs)) : w.ownsRow 0 e k v n xs := hs.at hi
section own
variable {C : Cx} {F : Fr} {L : List HL} {o : Oper}
theorem Still.max {x y : Operand} {ts : Array TypeId} {k : IntKind} {i j : Int} (ho : o.op = .call { callee := .builtin .max, args := #[x, y], argTypes := ts }) (hx : F.ev x = some (.int k i)) (hy : F.ev y = some (.int k j)) : Still C o F L (.int k (max i j)) :=
  ⟨fun c h => (by rw [ho] at h; cases h), fun a w ok => by
    obtain ⟨d, op, ty, ps, af, g⟩ := o; subst ho
    rw [BigFrame.execOp_builtin, BigFrame.builtin_max]
    have e : (if j > i then j else i) = max i j := by omega
    simp [ok.fr.ev hx, ok.fr.ev hy, run_max_int2]
    exact e⟩
theorem Still.lenOwn {x : Operand} {t e k n : Nat} {v : Value} {xs : List Value} (ho : o.op = .call { callee := .builtin .len, args := #[x], argTypes := #[t] }) (hx : F.ev x = some v) (ht : C.P.underlying t = some (.slice (C.P.elem t)))
    (hown : ∀ w, Sym C.w0 C.S L w → w.ownsRow 0 e k v n xs) : Still C o F L (.int .i64 n) :=
  ⟨fun c h => (by rw [ho] at h; cases h), fun a w ok => by
    obtain ⟨d, op, ty, ps, af, g⟩ := o; subst ho
    rw [BigFrame.execOp_builtin, BigFrame.builtin_len]
    rcases (hown w ok.sym).2 with ⟨hv, h0⟩ | ⟨g, cap, cur, hv, _⟩
    · simp [ok.fr.ev hx, hv, h0, run_len_slice w _ _ _ _ _ ht, goInt]
    · simp [ok.fr.ev hx, hv, run_len_slice w _ _ _ _ _ ht, goInt]⟩
theorem Still.indexOwnI {t e et : TypeId} {x ix : Operand} {v : Value} {xs : List Value} {n k : Nat} {kd : IntKind} {i : Int} {m : Nat} (ho : o.op = .indexAddr t x ix) (hx : F.ev x = some v) (hi : F.ev ix = some (.int kd i))
    (ht : C.P.underlying t = some (.slice et)) (hz : ∀ w, (sizeOf et).run C.P w = .ok k w) (hown : ∀ w, Sym C.w0 C.S L w → w.ownsRow 0 e k v n xs) (hm : i = (m : Int)) (hb : m < n) : Still C o F L (.pointer (some ((vaddr v).add (m * k)))) :=
  ⟨fun c h => (by rw [ho] at h; cases h), fun a w ok => by
    obtain ⟨g, cap, cur, hv, _⟩ := own_addr (hown w ok.sym) (by omega)
    subst hv; subst hm
    exact (Still.indexSliceN (L := L) ho hx hi ht hz rfl hb).2 a w ok⟩
theorem Still.indexOwn {t e et : TypeId} {x ix : Operand} {v : Value} {xs : List Value} {n k : Nat} {kd : IntKind} {m : Nat} (ho : o.op = .indexAddr t x ix) (hx : F.ev x = some v) (hi : F.ev ix = some (.int kd (m : Int)))
    (ht : C.P.underlying t = some (.slice et)) (hz : ∀ w, (sizeOf et).run C.P w = .ok k w) (hown : ∀ w, Sym C.w0 C.S L w → w.ownsRow 0 e k v n xs) (hb : m < n) : Still C o F L (.pointer (some ((vaddr v).add (m * k)))) :=
  Still.indexOwnI ho hx hi ht hz hown rfl hb
theorem own_store {w w' : World} {e k n : Nat} {v : Value} {xs xs' : List Value} {j : Nat} {us : List Value} (h : w.ownsRow 0 e k v n xs) (hn : j + us.length ≤ xs.length) (hx : ∀ i, xs'[i]? = if j ≤ i ∧ i < j + us.length then us[i - j]? else xs[i]?)
    (hw : ∀ cur t fz, w.heap[(vaddr v).block]? = some (.cells cur t fz) → w'.heap[(vaddr v).block]? = some (.cells (putAll cur ((vaddr v).off + j) us) t fz)) (hlen : us ≠ []) : w'.ownsRow 0 e k v n xs' := by
  have hxl : xs'.length = xs.length := by
    apply Nat.le_antisymm
    · have := hx xs.length
      rw [List.getElem?_eq_none (Nat.le_refl _)] at this
      have h2 : xs'[xs.length]? = none := by rw [this]; split <;> simp_all <;> omega
      simpa using h2
    · rcases Nat.lt_or_ge xs'.length xs.length with h1 | h1
      · exfalso
        have h2 := hx xs'.length
        rw [List.getElem?_eq_none (Nat.le_refl _)] at h2
        split at h2
        · rename_i hc
          have : xs'.length - j < us.length := by omega
          simp [List.getElem?_eq_getElem this] at h2
        · simp [List.getElem?_eq_getElem h1] at h2
      · exact h1
  have hul : 0 < us.length := by cases us <;> simp_all
  refine ⟨by rw [hxl]; exact h.1, ?_⟩
  rcases h.2 with ⟨hv, h0⟩ | ⟨g, cap, cur, hv, hg0, hg, hnc, hcm, hcs, ht⟩
  · have := h.1; rw [h0] at this; omega
  · subst hv
    refine .inr ⟨g, cap, _, rfl, hg0, hw cur e (0, 0) hg, hnc, hcm, by rw [size_putAll]; exact hcs, ?_⟩
    simp only [vaddr, Nat.zero_add]
    -- the cells behind a store, one by one
    have key : ∀ (us : List Value) (cur : Array Value) (j i : Nat), j + us.length ≤ cur.size → (putAll cur j us)[i]? = if j ≤ i ∧ i < j + us.length then us[i - j]? else cur[i]? := by
      intro us
      induction us with
      | nil => intro cur j i _; simp [putAll]; intro h1 h2; omega
      | cons u us ih =>
        intro cur j i hj
        simp only [List.length_cons] at hj
        rw [putAll, ih _ _ _ (by rw [Array.size_setIfInBounds]; omega)]
        by_cases h1 : i = j
        · subst h1
          rw [if_neg (by omega), if_pos (by simp)]
          simp [show i < cur.size by omega]
        · by_cases h2 : j + 1 ≤ i ∧ i < j + 1 + us.length
          · rw [if_pos h2, if_pos (by simp; omega)]
            rw [show i - j = (i - (j + 1)) + 1 by omega, List.getElem?_cons_succ]
          · rw [if_neg h2, if_neg (by simp; omega)]
            rw [Array.getElem?_setIfInBounds_ne (by omega)]
    have hlx : xs.length ≤ cur.size := by rw [h.1, hcs]; exact Nat.mul_le_mul_right _ hnc
    apply List.ext_getElem?
    intro i
    rw [hx i, List.getElem?_take]
    by_cases hi : i < n * k
    · rw [if_pos hi]
      have := key us cur j i (by omega)
      simp only [Array.getElem?_toList]
      rw [this]
      split
      · rfl
      · rw [← ht, List.getElem?_take, if_pos hi]; simp
    · rw [if_neg hi]
      have h1 := h.1
      rw [if_neg (by omega), List.getElem?_eq_none (by omega)]
/-- A store into an owned slice; the new contents are told. -/
theorem Does.storeOwn {t : TypeId} {x y : Operand} {i e k n m : Nat} {v u : Value} {xs xs' : List Value} {A : Addr} {j : Nat} (ho : o.op = .store t x y) (hx : F.ev x = some (.pointer (some A))) (hA : A = (vaddr v).add j) (hy : F.ev y = some u)
    (hi : L[i]? = some (HL.own e k v n xs)) (hz : ∀ w, (sizeOf t).run C.P w = .ok m w) (hm : u.cells.size = m) (h0 : 0 < m) (h1 : u.cells.toList.all Value.oneCell' = true) (hj : j + m ≤ xs.length)
    (hxs : ∀ i, xs'[i]? = if j ≤ i ∧ i < j + m then u.cells.toList[i - j]? else xs[i]?) : Does C o F L (fun _ : Unit => True) (fun _ => undef) (fun _ => L.set i (HL.own e k v n xs')) := fun a w ok next Q h => by
  have hown : w.ownsRow 0 e k v n xs := ok.sym.at hi
  have hn : 0 < n := by
    rcases Nat.eq_zero_or_pos n with h2 | h2
    · have := hown.1; rw [h2] at this; omega
    · exact h2
  obtain ⟨g, cap, cur, hv, hg, hcs, hnc, htk⟩ := own_addr hown hn
  have hlx : xs.length ≤ cur.size := by rw [hown.1, hcs]; exact Nat.mul_le_mul_right _ hnc
  have hAg : A = ⟨g, j, none⟩ := by rw [hA, hv]; show (⟨g, 0, none⟩ : Addr).add j = _; rw [add_new, Nat.zero_add]
  have hul : u.cells.toList.length = m := by simpa using hm
  obtain ⟨w', hr, hh, hold, hsz⟩ := run_storeCells_own (P := C.P) u.cells.toList 0 j cur w hg (by rw [hul]; omega) (List.all_eq_true.1 h1)
  simp only [Nat.add_zero] at hh
  refine wpIn_skip' (fun c h => (by rw [ho] at h; cases h)) (w' := w') ?_ (h () w' trivial ?_)
  · simp only [execOp, ho, ok.fr.ev hx, ok.fr.ev hy, hAg]
    simp [Instr.storeAt, Instr.sureAddr, storeVar, hm, hz, hr]
  · have hvb : v.ownBlock = some g := by rw [hv]; rfl
    refine ok.sym.turn hi (fun c hc => ⟨.inl hc, ?_⟩) (hold.mono (fun c _ hc => by subst hc; exact hvb)) ?_
    · have e1 : some c = some g := (show v.ownBlock = some c from hc).symm.trans hvb
      cases e1; rw [hsz]; exact (hown.lt g hvb).2
    · refine own_store (us := u.cells.toList) hown (by rw [hul]; exact hj) (by rw [hul]; exact hxs) ?_ (by intro h2; rw [h2] at hul; simp at hul; omega)
      intro cur' t' fz' hc'
      rw [hv] at hc' ⊢
      simp only [vaddr] at hc' ⊢
      rw [hg] at hc'; cases hc'
      simpa using hh
theorem set_get {xs : List Value} {j : Nat} {u : Value} (hj : j < xs.length) : ∀ i, (xs.set j u)[i]? = if j ≤ i ∧ i < j + 1 then [u][i - j]? else xs[i]? := fun i => by
  rw [List.getElem?_set]
  by_cases h : j = i
  · subst h; simp [hj]
  · rw [if_neg h, if_neg (by omega)]
/-- One cell. -/
theorem Does.storeOwn1 {t : TypeId} {x y : Operand} {i e k n : Nat} {v u : Value} {xs xs' : List Value} {A : Addr} {j : Nat} (ho : o.op = .store t x y) (hx : F.ev x = some (.pointer (some A))) (hA : A = (vaddr v).add j) (hy : F.ev y = some u)
    (hi : L[i]? = some (HL.own e k v n xs)) (hz : ∀ w, (sizeOf t).run C.P w = .ok 1 w) (h1 : u.oneCell' = true) (hj : j < xs.length) (hxs : xs.set j u = xs') : Does C o F L (fun _ : Unit => True) (fun _ => undef) (fun _ => L.set i (HL.own e k v n xs')) := by
  have hc : u.cells = #[u] := by cases u <;> first | rfl | cases h1
  refine Does.storeOwn ho hx hA hy hi hz (by simp [hc]) (by omega) (by simp [hc, h1]) (by omega) ?_
  rw [hc, ← hxs]; exact set_get hj
/-- make: owned from the first. -/
theorem Sym.obj_own {w0 w : World} {S : Nat → Prop} {L : List HL} {b e n k : Nat} {cs : Array Value} (hs : Sym w0 S (HL.obj b (.cells cs e (0, 0)) :: L) w) (hc : cs.size = n * k) (hm : n ≤ 9223372036854775807) : Sym w0 S (HL.own e k (.slice (some ⟨b, 0, none⟩) n n) n cs.toList :: L) w :=
  hs.weaken (fun h => own_of_obj h hc hm) (fun c hc => by
    have e1 : some b = some c := hc
    cases e1; rfl)
theorem size_zeros (n : Nat) (zs : List Value) : (zeros n zs).size = n * zs.length := by simp [zeros]
theorem Grows.make {t e : TypeId} {x y : Operand} {n size bytes : Nat} {k k' : IntKind} {z : Value} {xs : List Value} (ho : o.op = .makeSlice t x y) (hx : F.ev x = some (.int k (n : Int))) (hy : F.ev y = some (.int k' (n : Int)))
    (ht : C.P.underlying t = some (.slice e)) (hi : (C.P.info? e).map (fun i => (i.zero, i.size, i.bytes)) = some (some z, size, bytes)) (hzs : z.cells.size = size) (hb : bytes * n ≤ 281474976710656) (hn : n ≤ 9223372036854775807) (hxs : (zeros n z.cells.toList).toList = xs) :
    Grows C o F L (fun _ : Nat => True) (fun b => .slice (some ⟨b, 0, none⟩) n n) (fun b => [HL.own e size (.slice (some ⟨b, 0, none⟩) n n) n xs]) := fun a w ok next Q h =>
  Grows.makeSlice ho hx hy ht hi hzs hb hn a w ok next Q fun g w' hφ hold hs => h g w' hφ hold (by subst hxs; exact Sym.obj_own hs (by rw [size_zeros]; simp [hzs]) hn)
theorem zeros_one (n : Nat) (z : Value) : (zeros n [z]).toList = List.replicate n z := by simp [zeros]
/-- append of one element, or several, told by the new contents. -/
theorem Does.appendTo {t e ty : TypeId} {x y : Operand} {i n k m c bytes n' : Nat} {v z : Value} {xs news xs' : List Value} {A : Addr} (ho : o.op = .call { callee := .builtin .append, args := #[x, y], argTypes := #[t, t] }) (hty : o.type = ty)
    (hx : F.ev x = some v) (hy : F.ev y = some (.slice (some A) m c)) (hi : L[i]? = some (HL.own e k v n xs)) (ht : C.P.underlying t = some (.slice e))
    (hinf : (C.P.info? e).map (fun i => (i.zero, i.size, i.bytes)) = some (some z, k, bytes)) (hzs : z.cells.size = k) (hk : Nat.blt 0 k = true)
    (hnews : ∀ w, Sym C.w0 C.S L w → Cells w A news) (hl : news.length = m * k) (h1 : news.all Value.oneCell' = true) (hb : (n + m) * bytes ≤ 140737488355328) (hm : n + m ≤ 9223372036854775807) (hn' : n + m = n') (hxs : xs ++ news = xs') :
    Does C o F L (fun v' : Value => v' = .slice none 0 0 ↔ v = .slice none 0 0 ∧ m = 0) (fun v' => v') (fun v' => L.set i (HL.own e k v' n' xs')) := by
  subst hn'; subst hxs
  exact Does.append ho hty hx hy hi ht hinf hzs (by simpa using hk) hnews hl (List.all_eq_true.1 h1) hb hm
end own
/-! ### Lists of ints; lists of structs -/
def ints (xs : List Int) : List Value := xs.map iv'
where iv' (n : Int) : Value := .int .i64 n
theorem ints_get {xs : List Int} {m : Nat} {y : Int} (h : xs[m]? = some y) : (ints xs)[m * 1]? = some (.int .i64 y) := by simp [ints, ints.iv', h]
theorem ints_get' {xs : List Int} {m : Nat} {y : Int} (h : xs[m]? = some y) : (ints xs)[m]? = some (.int .i64 y) := by simp [ints, ints.iv', h]
@[simp] theorem length_ints (xs : List Int) : (ints xs).length = xs.length := by simp [ints]
theorem ints_set (xs : List Int) (m : Nat) (y : Int) : (ints xs).set (m * 1) (.int .i64 y) = ints (xs.set m y) := by simp [ints, ints.iv', List.map_set]
theorem ints_append (xs ys : List Int) : ints (xs ++ ys) = ints xs ++ ints ys := by simp [ints]
theorem ints_snoc (xs : List Int) (y : Int) : ints xs ++ [.int .i64 y] = ints (xs ++ [y]) := by simp [ints, ints.iv']
theorem ints_replicate (n : Nat) (y : Int) : List.replicate n (.int .i64 y) = ints (List.replicate n y) := by simp [ints, ints.iv']
theorem ints_one (l : List Int) : (ints l).all Value.oneCell' = true := by simp [ints, ints.iv', List.all_eq_true, Value.oneCell']
theorem flat_get {α : Type} {enc : α → List Value} {k : Nat} (hk : ∀ x, (enc x).length = k) : ∀ {ys : List α} {m : Nat} {y : α} {j : Nat} {u : Value}, ys[m]? = some y → (enc y)[j]? = some u → (ys.flatMap enc)[m * k + j]? = some u
  | [], m, y, j, u, h, _ => by simp at h
  | y0 :: r, 0, y, j, u, h, hj => by
    simp at h; subst h
    have hj' : j < (enc y0).length := (List.getElem?_eq_some_iff.1 hj).1
    rw [List.flatMap_cons, List.getElem?_append_left (by omega)]
    simpa using hj
  | y0 :: r, m + 1, y, j, u, h, hj => by
    rw [List.flatMap_cons, List.getElem?_append_right (by rw [hk, Nat.succ_mul]; omega)]
    have := flat_get hk (ys := r) (m := m) (by simpa using h) hj
    rw [hk]
    rwa [show (m + 1) * k + j - k = m * k + j by rw [Nat.succ_mul]; omega]
theorem flat_len {α : Type} {enc : α → List Value} {k : Nat} (hk : ∀ x, (enc x).length = k) (ys : List α) : (ys.flatMap enc).length = ys.length * k := by
  induction ys with
  | nil => simp
  | cons y r ih => rw [List.flatMap_cons, List.length_append, ih, hk, List.length_cons, Nat.succ_mul]; omega
theorem flat_get_inv {α : Type} {enc : α → List Value} {k : Nat} (hk : ∀ x, (enc x).length = k) (h0 : 0 < k) (ys : List α) (i : Nat) : (ys.flatMap enc)[i]? = (ys[i / k]?).bind fun y => (enc y)[i % k]? := by
  rcases Nat.lt_or_ge (i / k) ys.length with h | h
  · obtain ⟨y, hy⟩ : ∃ y, ys[i / k]? = some y := ⟨ys[i / k], by simp [h]⟩
    rw [hy, Option.bind_some]
    have hm : i % k < (enc y).length := by rw [hk]; exact Nat.mod_lt _ h0
    have := flat_get hk hy (List.getElem?_eq_getElem hm)
    rw [Nat.mul_comm, Nat.div_add_mod] at this
    rw [this, List.getElem?_eq_getElem hm]
  · rw [List.getElem?_eq_none h, Option.bind_none, List.getElem?_eq_none]
    rw [flat_len hk]
    have := (Nat.le_div_iff_mul_le h0).1 h
    omega
theorem flat_set {α : Type} {enc : α → List Value} {k : Nat} (hk : ∀ x, (enc x).length = k) (h0 : 0 < k) {ys : List α} {m : Nat} (y : α) (hm : m < ys.length) :
    ∀ i, ((ys.set m y).flatMap enc)[i]? = if m * k ≤ i ∧ i < m * k + k then (enc y)[i - m * k]? else (ys.flatMap enc)[i]? := fun i => by
  rw [flat_get_inv hk h0, flat_get_inv hk h0, List.getElem?_set]
  have hd := Nat.div_add_mod i k
  have hml := Nat.mod_lt i h0
  by_cases e : m = i / k
  · subst e
    rw [if_pos rfl, if_pos hm, if_pos ⟨by rw [Nat.mul_comm]; omega, by rw [Nat.mul_comm]; omega⟩]
    simp only [Option.bind_some]
    congr 1
    rw [Nat.mul_comm]; omega
  · rw [if_neg e, if_neg]
    rintro ⟨h1, h2⟩
    apply e
    have := (Nat.le_div_iff_mul_le h0).2 h1
    have h3 : i / k < m + 1 := (Nat.div_lt_iff_lt_mul h0).2 (by rw [Nat.succ_mul]; omega)
    omega
/-! ### Equality of small structs and arrays of integers -/
theorem eq_int {P : Program} {t : TypeId} {k k' : IntKind} (h : P.underlying t = some (.int k')) (d : Nat) (a b : Int) (w : World) : (Op.equalIn (d + 1) t (.int k a) (.int k b)).run P w = .ok (decide (a = b)) w := by
  rw [run_equalIn_int w d t k k' a b h]; rw [Bool.beq_eq_decide_eq]
/-- Two fields of integers. -/
theorem eq_two {P : Program} {t : TypeId} {f0 f1 : Field} {k k' : IntKind} (ht : P.underlying t = some (.struct #[f0, f1])) (hp : P.stoodInHeld t = false) (h0 : P.underlying f0.type = some (.int k)) (h1 : P.underlying f1.type = some (.int k'))
    (n0 : f0.name ≠ "_") (n1 : f1.name ≠ "_") (o0 : f0.offset = 0) (o1 : f1.offset = 1) (d : Nat) (a b a' b' : Int) (w : World) :
    (Op.equalIn (d + 2) t (.agg #[.int k a, .int k' b]) (.agg #[.int k a', .int k' b'])).run P w = .ok (decide (a = a' ∧ b = b')) w := by
  have hf : P.fieldsOf t = #[f0, f1] := by simp [Program.fieldsOf, ht]
  have i0 : ∀ w, (isAgg f0.type).run P w = .ok false w := fun w => by simp [isAgg, run_underlying h0]
  have i1 : ∀ w, (isAgg f1.type).run P w = .ok false w := fun w => by simp [isAgg, run_underlying h1]
  rw [run_equalIn_struct w (d + 1) t _ _ (by rw [hf]; exact ht) hp, hf]
  simp [Op.eqFields, n0, n1, part, i0, i1, o0, o1, eq_int h0, eq_int h1]
  by_cases e0 : a = a' <;> by_cases e1 : b = b' <;> simp [e0, e1]
theorem eq_arr4 {P : Program} {t e : TypeId} {i : TypeInfo} {k : IntKind} (ht : P.underlying t = some (.array 4 e)) (he : P.underlying e = some (.int k)) (hi : P.info? e = some i) (hz : P.cellsOf e = 1) (d : Nat) (a b c f a' b' c' f' : Int) (w : World) :
    (Op.equalIn (d + 2) t (.agg #[.int k a, .int k b, .int k c, .int k f]) (.agg #[.int k a', .int k b', .int k c', .int k f'])).run P w = .ok (decide (a = a' ∧ b = b' ∧ c = c' ∧ f = f')) w := by
  have i0 : ∀ w, (isAgg e).run P w = .ok false w := fun w => by simp [isAgg, run_underlying he]
  rw [run_equalIn_array w (d + 1) _ _ ht hi, hz]
  simp only [List.range_succ, List.range_zero, List.nil_append, List.cons_append, Op.eqItems, Nat.mul_one, part, Sem.run_bind, i0, Result.andThen_ok, Bool.false_eq_true, if_false]
  simp only [List.getElem?_toArray, List.getElem?_cons_zero, List.getElem?_cons_succ, Sem.run_pure, Result.andThen_ok, eq_int he]
  by_cases e0 : a = a' <;> by_cases e1 : b = b' <;> by_cases e2 : c = c' <;> by_cases e3 : f = f' <;> simp [e0, e1, e2, e3, i0, eq_int he]
/-- An array of four integers and an integer. -/
theorem eq_five {P : Program} {t e : TypeId} {i : TypeInfo} {f0 f1 : Field} {k : IntKind} (ht : P.underlying t = some (.struct #[f0, f1])) (hp : P.stoodInHeld t = false) (h0 : P.underlying f0.type = some (.array 4 e)) (h1 : P.underlying f1.type = some (.int k))
    (he : P.underlying e = some (.int k)) (hi : P.info? e = some i) (hz : P.cellsOf e = 1) (hz4 : ∀ w, (sizeOf f0.type).run P w = .ok 4 w)
    (n0 : f0.name ≠ "_") (n1 : f1.name ≠ "_") (o0 : f0.offset = 0) (o1 : f1.offset = 4) (d : Nat) (a b c f s a' b' c' f' s' : Int) (w : World) :
    (Op.equalIn (d + 3) t (.agg #[.int k a, .int k b, .int k c, .int k f, .int k s]) (.agg #[.int k a', .int k b', .int k c', .int k f', .int k s'])).run P w = .ok (decide (a = a' ∧ b = b' ∧ c = c' ∧ f = f' ∧ s = s')) w := by
  have hf : P.fieldsOf t = #[f0, f1] := by simp [Program.fieldsOf, ht]
  have i0 : ∀ w, (isAgg f0.type).run P w = .ok true w := fun w => by simp [isAgg, run_underlying h0]
  have i1 : ∀ w, (isAgg f1.type).run P w = .ok false w := fun w => by simp [isAgg, run_underlying h1]
  rw [run_equalIn_struct w (d + 2) t _ _ (by rw [hf]; exact ht) hp, hf]
  have e4 := eq_arr4 h0 he hi hz d a b c f a' b' c' f'
  simp [Op.eqFields, n0, n1, part, i0, i1, hz4, o0, o1, eq_int h1, e4]
  by_cases e0 : a = a' <;> by_cases e1 : b = b' <;> by_cases e2 : c = c' <;> by_cases e3 : f = f' <;> by_cases e4 : s = s' <;> simp [e0, e1, e2, e3, e4]
section eqs
variable {C : Cx} {F : Fr} {L : List HL} {o : Oper}
theorem Still.eqlAgg {xt yt : TypeId} {x y : Operand} {xs ys : Array Value} {b : Bool} (ho : o.op = .binOp .eql xt x y yt) (hx : F.ev x = some (.agg xs)) (hy : F.ev y = some (.agg ys)) (hg : C.P.eqGuardType C.P.depth xt = false)
    (hr : ∀ w, (Op.equalIn 10000 xt (.agg xs) (.agg ys)).run C.P w = .ok b w) : Still C o F L (.bool b) :=
  ⟨fun c h => (by rw [ho] at h; cases h), fun a w ok => by simp only [execOp, ho, ok.fr.ev hx, ok.fr.ev hy]; simp [run_eqGuard_agg w _ xt x y xs ys hg, run_eql_struct, hr]⟩
theorem Still.neqAgg {xt yt : TypeId} {x y : Operand} {xs ys : Array Value} {b : Bool} (ho : o.op = .binOp .neq xt x y yt) (hx : F.ev x = some (.agg xs)) (hy : F.ev y = some (.agg ys)) (hg : C.P.eqGuardType C.P.depth xt = false)
    (hr : ∀ w, (Op.equalIn 10000 xt (.agg xs) (.agg ys)).run C.P w = .ok b w) : Still C o F L (.bool (!b)) :=
  ⟨fun c h => (by rw [ho] at h; cases h), fun a w ok => by simp only [execOp, ho, ok.fr.ev hx, ok.fr.ev hy]; simp [run_eqGuard_agg w _ xt x y xs ys hg, run_neq_struct, hr]⟩
end eqs
/-! ### A piece that comes to one state -/
def Meets (C : Cx) (F : Fr) (L : List HL) (Q : Exit → Act → World → Prop) : Exit → Act → World → Prop
  | .normal, a, w => Ok C F L a w
  | e, a, w => Q e a w
theorem RunC.meet1 {C : Cx} {c : Code} {Q : Exit → Act → World → Prop} {F chg keep : Fr} {L hkeep : List HL} (_ : keep.Sub F) (_ : HSub hkeep L) (h : RunC C c (Meets C (chg ++ keep) hkeep Q) F L) (hq : Ends C .normal Q (chg ++ keep) hkeep) : RunC C c Q F L := fun a w ok =>
  wpIn_mono (h a w ok) fun e a w h => by cases e <;> first | exact hq a w h | exact h
theorem Ends.meet1 {C : Cx} {Q : Exit → Act → World → Prop} {F chg keep : Fr} {L hkeep : List HL} (hc : chg.Sub F) (hk : keep.Sub F) (hL : HSub hkeep L) : Ends C .normal (Meets C (chg ++ keep) hkeep Q) F L := fun _ _ ok => ok.sub (hc.app hk) hL
theorem Ends.meet1_ret {C : Cx} {Q : Exit → Act → World → Prop} {F G : Fr} {L K : List HL} (h : Ends C .ret Q F L) : Ends C .ret (Meets C G K Q) F L := h
theorem Ends.meet1_exit {C : Cx} {Q : Exit → Act → World → Prop} {F G : Fr} {L K : List HL} {i : Nat} (h : Ends C (.exit i) Q F L) : Ends C (.exit i) (Meets C G K Q) F L := h
def MeetsG (C : Cx) {γ : Type} (I : γ → Prop) (Fi : γ → Fr) (Li : γ → List HL) (Q : Exit → Act → World → Prop) : Exit → Act → World → Prop
  | .normal, a, w => ∃ g, I g ∧ Ok C (Fi g) (Li g) a w
  | e, a, w => Q e a w
theorem RunC.meetG {C : Cx} {c : Code} {Q : Exit → Act → World → Prop} {F keep : Fr} {L hkeep : List HL} {γ : Type} (I : γ → Prop) (chg : γ → Fr) (hchg : γ → List HL) (_ : keep.Sub F) (_ : HSub hkeep L)
    (h : RunC C c (MeetsG C I (fun g => chg g ++ keep) (fun g => hchg g ++ hkeep) Q) F L) (hq : ∀ g, I g → Ends C .normal Q (chg g ++ keep) (hchg g ++ hkeep)) : RunC C c Q F L := fun a w ok =>
  wpIn_mono (h a w ok) fun e a w h => by cases e <;> first | (obtain ⟨g, hg, ok'⟩ := h; exact hq g hg a w ok') | exact h
theorem Ends.meetG {C : Cx} {Q : Exit → Act → World → Prop} {F keep : Fr} {L hkeep : List HL} {γ : Type} {I : γ → Prop} {chg : γ → Fr} {hchg : γ → List HL} (g : γ) (hI : I g) (hc : (chg g).Sub F) (hk : keep.Sub F) (hL : HSub (hchg g ++ hkeep) L) :
    Ends C .normal (MeetsG C I (fun g => chg g ++ keep) (fun g => hchg g ++ hkeep) Q) F L := fun _ _ ok => ⟨g, hI, ok.sub (hc.app hk) hL⟩
/-! ### A slice value whose length is known -/
def Shape (v : Value) (n : Nat) : Prop := ∃ base cap, v = .slice base n cap ∧ (0 < n → base = some (vaddr v))
theorem own_shape {w : World} {e k n : Nat} {v : Value} {xs : List Value} (h : w.ownsRow 0 e k v n xs) : Shape v n := by
  rcases h.2 with ⟨hv, h0⟩ | ⟨g, cap, cur, hv, _⟩
  · subst h0; exact ⟨none, 0, hv, fun h => by omega⟩
  · exact ⟨_, cap, hv, fun _ => by rw [hv]; rfl⟩
theorem shape_slice {base : Option Addr} {A : Addr} {n cap : Nat} (h : 0 < n → base = some A) : Shape (.slice base n cap) n := ⟨base, cap, rfl, fun hn => by rw [h hn]; rfl⟩
theorem cells_at {w : World} {A : Addr} {cs : List Value} {j : Nat} {u : Value} (h : Cells w A cs) (hj : cs[j]? = some u) : w.cell? (A.add j) = some u := h j u hj
theorem cells_at2 {w : World} {A : Addr} {cs : List Value} {i j : Nat} {u : Value} (h : Cells w A cs) (hj : cs[i + j]? = some u) : w.cell? ((A.add i).add j) = some u := by rw [add_add]; exact h _ u hj
theorem cells_at3 {w : World} {A : Addr} {cs : List Value} {i j l : Nat} {u : Value} (h : Cells w A cs) (hj : cs[i + j + l]? = some u) : w.cell? (((A.add i).add j).add l) = some u := by rw [add_add, add_add, ← Nat.add_assoc]; exact h _ u hj
theorem cells_part {w : World} {A : Addr} {cs us : List Value} {i : Nat} (h : Cells w A cs) (hj : ∀ j u, us[j]? = some u → cs[i + j]? = some u) : Cells w (A.add i) us := fun j u hu => cells_at2 h (hj j u hu)
theorem cells_part2 {w : World} {A : Addr} {cs us : List Value} {i l : Nat} (h : Cells w A cs) (hj : ∀ j u, us[j]? = some u → cs[i + l + j]? = some u) : Cells w ((A.add i).add l) us := fun j u hu => cells_at3 h (hj j u hu)
section shape
variable {C : Cx} {F : Fr} {L : List HL} {o : Oper}
theorem Still.lenV {x : Operand} {t n : Nat} {v : Value} (ho : o.op = .call { callee := .builtin .len, args := #[x], argTypes := #[t] }) (hx : F.ev x = some v) (ht : C.P.underlying t = some (.slice (C.P.elem t))) (hv : Shape v n) : Still C o F L (.int .i64 n) := by
  obtain ⟨base, cap, hv, _⟩ := hv
  subst hv
  exact Still.lenSlice ho hx ht
theorem Still.indexV {t et : TypeId} {x ix : Operand} {v : Value} {n k : Nat} {kd : IntKind} {i : Int} (m : Nat) (ho : o.op = .indexAddr t x ix) (hx : F.ev x = some v) (hi : F.ev ix = some (.int kd i))
    (ht : C.P.underlying t = some (.slice et)) (hz : ∀ w, (sizeOf et).run C.P w = .ok k w) (hv : Shape v n) (hm : i = (m : Int)) (hb : m < n) : Still C o F L (.pointer (some ((vaddr v).add (m * k)))) := by
  obtain ⟨base, cap, hv, hA⟩ := hv
  subst hm
  have hA' := hA (by omega)
  rw [hv] at hx hA' ⊢
  exact Still.indexSliceN ho hx hi ht hz hA' hb
end shape
theorem RunL.conv {C : Cx} {ops : Array Oper} {Q : Exit → Act → World → Prop} {l : List Oper} {F : Fr} {L L' : List HL} (hc : ∀ w, Sym C.w0 C.S L w → Sym C.w0 C.S L' w) (h : RunL C ops Q l F L') : RunL C ops Q l F L := fun a w ok => h a w ⟨ok.fr, hc w ok.sym⟩
theorem RunC.conv {C : Cx} {Q : Exit → Act → World → Prop} {c : Code} {F : Fr} {L L' : List HL} (hc : ∀ w, Sym C.w0 C.S L w → Sym C.w0 C.S L' w) (h : RunC C c Q F L') : RunC C c Q F L := fun a w ok => h a w ⟨ok.fr, hc w ok.sym⟩
theorem Ends.conv {C : Cx} {Q : Exit → Act → World → Prop} {e : Exit} {F : Fr} {L L' : List HL} (hc : ∀ w, Sym C.w0 C.S L w → Sym C.w0 C.S L' w) (h : Ends C e Q F L') : Ends C e Q F L := fun a w ok => h a w ⟨ok.fr, hc w ok.sym⟩
/-- A fact that the memory holds. -/
theorem RunL.know {C : Cx} {ops : Array Oper} {Q : Exit → Act → World → Prop} {l : List Oper} {F : Fr} {L : List HL} {p : Prop} (hp : ∀ w, Sym C.w0 C.S L w → p) (h : p → RunL C ops Q l F L) : RunL C ops Q l F L := fun a w ok => h (hp w ok.sym) a w ok
theorem RunC.know {C : Cx} {Q : Exit → Act → World → Prop} {c : Code} {F : Fr} {L : List HL} {p : Prop} (hp : ∀ w, Sym C.w0 C.S L w → p) (h : p → RunC C c Q F L) : RunC C c Q F L := fun a w ok => h (hp w ok.sym) a w ok
/-! ### Rows of slices -/
/-- Many heaplets as one. -/
def HL.all : List HL → HL
  | [] => HL.emp
  | h :: r => HL.star h (HL.all r)
theorem HL.all_mem : ∀ {l : List HL} {h : HL} {w : World}, (HL.all l).holds w → h ∈ l → h.holds w
  | k :: r, h, w, hh, hm => by
    rcases List.mem_cons.1 hm with rfl | hm
    · exact hh.1
    · exact HL.all_mem hh.2.1 hm
def HL.rows {α : Type} (mk : α → HL) (as : List α) : HL := HL.all (as.reverse.map mk)
theorem rows_nil {α : Type} (mk : α → HL) : HL.rows mk [] = HL.emp := rfl
theorem rows_snoc {α : Type} (mk : α → HL) (as : List α) (a : α) : HL.rows mk (as ++ [a]) = HL.star (mk a) (HL.rows mk as) := by simp [HL.rows, HL.all]
theorem rows_get {α : Type} {mk : α → HL} {as : List α} {a : α} {i : Nat} {w : World} (h : (HL.rows mk as).holds w) (hi : as[i]? = some a) : (mk a).holds w :=
  HL.all_mem h (List.mem_map_of_mem (List.mem_reverse.2 (List.mem_of_getElem? hi)))
theorem Sym.rows_push {α : Type} {mk : α → HL} {as : List α} {a : α} {w0 w : World} {S : Nat → Prop} {R : List HL} (hs : Sym w0 S (mk a :: HL.rows mk as :: R) w) : Sym w0 S (HL.rows mk (as ++ [a]) :: R) w := by
  rw [rows_snoc]; exact hs.join
theorem Sym.emp {w0 w : World} {S : Nat → Prop} {L : List HL} (hs : Sym w0 S L w) : Sym w0 S (HL.emp :: L) w := by
  refine ⟨hs.old, fun h hm => ?_, fun h hm b hb => ?_, List.pairwise_cons.2 ⟨fun _ _ b hb => hb.elim, hs.apart⟩⟩
  · rcases List.mem_cons.1 hm with rfl | hm
    · trivial
    · exact hs.holds h hm
  · rcases List.mem_cons.1 hm with rfl | hm
    · exact hb.elim
    · exact hs.supp h hm b hb
end Go.V
