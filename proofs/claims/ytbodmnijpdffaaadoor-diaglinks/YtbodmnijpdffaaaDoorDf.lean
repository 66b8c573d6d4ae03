/- Diagrams as data, part f: the count by which the program decides whether a diagram is planar. -/
import Derived.Test.YtbodmnijpdffaaaDoorDe
import Derived.Test.YtbodmnijpdffaaaDoorVj
namespace Go.V
open Go
def fillTo (v : Int) (N a : Nat) : List Int := (List.range N).map fun i => if i < a then v else 0
theorem fillTo_len (v : Int) (N a : Nat) : (fillTo v N a).length = N := by simp [fillTo]
theorem fillTo_zero (v : Int) (N : Nat) : fillTo v N 0 = List.replicate N 0 := by
  apply List.ext_getElem?; intro i
  simp only [fillTo, List.getElem?_map, List.getElem?_replicate]
  by_cases h : i < N <;> simp [h]
theorem fillTo_succ {v : Int} {N a : Nat} (h : a < N) : (fillTo v N a).set a v = fillTo v N (a + 1) := by
  apply List.ext_getElem?
  intro i
  rw [List.getElem?_set, fillTo_len]
  by_cases hi : i < N
  · by_cases e : a = i
    · subst e; simp [fillTo, hi]
    · simp only [if_neg e, fillTo, List.getElem?_map, List.getElem?_range hi, Option.map_some]
      have : (i < a) ↔ (i < a + 1) := by omega
      simp [this]
  · rw [if_neg (by omega), List.getElem?_eq_none (by simp [fillTo_len]; omega), List.getElem?_eq_none (by simp [fillTo_len]; omega)]
def cntOs (os : List Int) (m : Nat) (j : Nat) : Nat := ((os.take m).filter fun x => decide (x = (j : Int))).length
def cntRs (os : List Int) (rs : List (Value × List Nat)) (t : Nat) (j : Nat) : Nat := ((rs.take t).filter fun a => decide (os.getD (a.2.headD 0 / 4) 0 = (j : Int))).length
def leftAt (os : List Int) (rs : List (Value × List Nat)) (k m t : Nat) : List Int := (List.range k).map fun j => 2 + (cntOs os m j : Int) - (cntRs os rs t j : Int)
theorem leftAt_len (os : List Int) (rs : List (Value × List Nat)) (k m t : Nat) : (leftAt os rs k m t).length = k := by simp [leftAt]
theorem leftAt_zero (os : List Int) (rs : List (Value × List Nat)) (k : Nat) : leftAt os rs k 0 0 = fillTo 2 k k := by
  simp only [leftAt, fillTo]
  exact List.map_congr_left fun i hi => by rw [if_pos (List.mem_range.1 hi)]; simp [cntOs, cntRs]
theorem leftAt_get {os : List Int} {rs : List (Value × List Nat)} {k m t j : Nat} (h : j < k) : (leftAt os rs k m t)[j]? = some (2 + (cntOs os m j : Int) - (cntRs os rs t j : Int)) := by simp [leftAt, h]
theorem cntOs_succ {os : List Int} {m : Nat} {x : Int} (hx : os[m]? = some x) (j : Nat) : cntOs os (m + 1) j = cntOs os m j + if x = (j : Int) then 1 else 0 := by
  simp only [cntOs, List.take_add_one, hx, List.filter_append, List.length_append]
  by_cases h : x = (j : Int) <;> simp [h]
theorem cntRs_succ {os : List Int} {rs : List (Value × List Nat)} {t : Nat} {a : Value × List Nat} (ha : rs[t]? = some a) (j : Nat) : cntRs os rs (t + 1) j = cntRs os rs t j + if os.getD (a.2.headD 0 / 4) 0 = (j : Int) then 1 else 0 := by
  simp only [cntRs, List.take_add_one, ha, List.filter_append, List.length_append]
  by_cases h : os.getD (a.2.headD 0 / 4) 0 = (j : Int)
  · rw [if_pos h]; simp only [Option.toList, List.filter_cons, List.filter_nil, decide_eq_true h, if_true, List.length_singleton]
  · rw [if_neg h]; simp only [Option.toList, List.filter_cons, List.filter_nil, decide_eq_false h, Bool.false_eq_true, if_false, List.length_nil]
theorem cntOs_le (os : List Int) (m j : Nat) : cntOs os m j ≤ os.length := by
  have h1 := List.length_filter_le (fun x => decide (x = (j : Int))) (os.take m); have h2 := List.length_take_le' m os; simp only [cntOs]; omega
theorem cntRs_le (os : List Int) (rs : List (Value × List Nat)) (t j : Nat) : cntRs os rs t j ≤ rs.length := by
  have h1 := List.length_filter_le (fun a : Value × List Nat => decide (os.getD (a.2.headD 0 / 4) 0 = (j : Int))) (rs.take t); have h2 := List.length_take_le' t rs; simp only [cntRs]; omega
theorem left_up {os : List Int} {rs : List (Value × List Nat)} {k m t x : Nat} (hx : os[m]? = some (x : Int)) (hk : x < k) : (leftAt os rs k m t).set x (2 + (cntOs os m x : Int) - (cntRs os rs t x : Int) + 1) = leftAt os rs k (m + 1) t := by
  apply List.ext_getElem?
  intro i
  rw [List.getElem?_set, leftAt_len]
  by_cases hi : i < k
  · by_cases e : x = i
    · subst e; rw [if_pos rfl, if_pos hk, leftAt_get hk, cntOs_succ hx]; simp; omega
    · have : ¬ ((x : Int) = (i : Int)) := by omega
      rw [if_neg e, leftAt_get hi, leftAt_get hi, cntOs_succ hx]; simp [this]
  · rw [if_neg (by omega), List.getElem?_eq_none (by simp [leftAt_len]; omega), List.getElem?_eq_none (by simp [leftAt_len]; omega)]
theorem left_down {os : List Int} {rs : List (Value × List Nat)} {k m t x : Nat} {a : Value × List Nat} (ha : rs[t]? = some a) (hx : os[a.2.headD 0 / 4]? = some (x : Int)) (hk : x < k) : (leftAt os rs k m t).set x (2 + (cntOs os m x : Int) - (cntRs os rs t x : Int) - 1) = leftAt os rs k m (t + 1) := by
  have hg : os.getD (a.2.headD 0 / 4) 0 = (x : Int) := by rw [List.getD_eq_getElem?_getD, hx]; rfl
  apply List.ext_getElem?
  intro i
  rw [List.getElem?_set, leftAt_len]
  by_cases hi : i < k
  · by_cases e : x = i
    · subst e; rw [if_pos rfl, if_pos hk, leftAt_get hk, cntRs_succ ha, hg]; simp; omega
    · have : ¬ ((x : Int) = (i : Int)) := by omega
      rw [if_neg e, leftAt_get hi, leftAt_get hi, cntRs_succ ha, hg]; simp [this]
  · rw [if_neg (by omega), List.getElem?_eq_none (by simp [leftAt_len]; omega), List.getElem?_eq_none (by simp [leftAt_len]; omega)]
theorem filter_length_congr {α : Type} {f g : α → Bool} : ∀ {l : List α}, (∀ x ∈ l, f x = g x) → (l.filter f).length = (l.filter g).length := fun h => by rw [List.filter_congr h]
theorem cntOs_piece {d : Dia} {os : List Int} {k : Nat} (hP : PInv d os k) {c j : Nat} (hc : os[c]? = some (j : Int)) : cntOs os d.cross.length j = (pieceOf d c).length := by
  have hos : os = (List.range d.cross.length).map fun i => os.getD i 0 := by
    apply List.ext_getElem?; intro i
    by_cases hi : i < d.cross.length
    · obtain ⟨y, hy⟩ := get_of_lt (l := os) (i := i) (by rw [hP.len]; exact hi)
      simp [hi, hy]
    · rw [List.getElem?_eq_none (by rw [hP.len]; omega), List.getElem?_eq_none (by simp; omega)]
  rw [cntOs, List.take_of_length_le (by rw [hP.len]; exact Nat.le_refl _)]
  conv => lhs; rw [hos]
  rw [List.filter_map, List.length_map, pieceOf]
  refine filter_length_congr fun i hi => ?_
  have hi := List.mem_range.1 hi
  obtain ⟨y, hy⟩ := get_of_lt (l := os) (i := i) (by rw [hP.len]; exact hi)
  have := hP.cls c i j hc (by omega) hi
  rw [hy] at this
  simp only [Function.comp, List.getD_eq_getElem?_getD, hy, Option.getD_some]
  by_cases e : y = (j : Int)
  · rw [connB_iff.2 (this.1 (by rw [e]))]; simp [e]
  · rw [connB_false.2 (fun h => e (Option.some.inj (this.2 h)))]; simp [e]
theorem cntRs_piece {d : Dia} {os : List Int} {k : Nat} (hP : PInv d os k) {rs : List (Value × List Nat)} (hr : rs.map Prod.snd = regsOf d) {c j : Nat} (hc : os[c]? = some (j : Int)) : cntRs os rs rs.length j = cntReg d c := by
  rw [cntReg_rs hr, cntRs, List.take_length]
  refine filter_length_congr fun a ha => ?_
  have hi := (regs_head (d := d) (Q := 4 * d.cross.length) hr (Nat.le_refl _) ha).1
  obtain ⟨y, hy⟩ := get_of_lt (l := os) (i := a.2.headD 0 / 4) (by rw [hP.len]; exact hi)
  have := hP.cls c _ j hc (by omega) hi
  rw [hy] at this
  simp only [List.getD_eq_getElem?_getD, hy, Option.getD_some]
  by_cases e : y = (j : Int)
  · rw [connB_iff.2 (this.1 (by rw [e]))]; simp [e]
  · rw [connB_false.2 (fun h => e (Option.some.inj (this.2 h)))]; simp [e]
theorem planar_of_left {d : Dia} {os : List Int} {k : Nat} (hP : PInv d os k) (hall : ∀ c, c < d.cross.length → ∃ x, os[c]? = some x ∧ 0 ≤ x) {rs : List (Value × List Nat)} (hr : rs.map Prod.snd = regsOf d)
    (h : ∀ j, j < k → 2 + (cntOs os d.cross.length j : Int) - (cntRs os rs rs.length j : Int) = 0) : PlanarP d := fun c hc => by
  obtain ⟨x, hx, h0⟩ := hall c hc
  have hxk := (hP.lo c x hx).2
  have hx' : os[c]? = some ((x.toNat : Nat) : Int) := by rw [Int.toNat_of_nonneg h0]; exact hx
  have := h x.toNat (by omega)
  rw [cntOs_piece hP hx', cntRs_piece hP hr hx'] at this
  omega
theorem left_of_planar {d : Dia} {os : List Int} {k : Nat} (hP : PInv d os k) {rs : List (Value × List Nat)} (hr : rs.map Prod.snd = regsOf d) (h : PlanarP d) {j : Nat} (hj : j < k) : 2 + (cntOs os d.cross.length j : Int) - (cntRs os rs rs.length j : Int) = 0 := by
  obtain ⟨c, hc⟩ := hP.onto j hj
  have hl : c < d.cross.length := by rw [← hP.len]; exact (List.getElem?_eq_some_iff.1 hc).1
  have := h c hl
  rw [cntOs_piece hP hc, cntRs_piece hP hr hc]
  omega
/-! ### What 'enter' gives -/
theorem Sym.re {w0 w : World} {S : Nat → Prop} {L : List HL} {h h' : HL} (i : Nat) (hs : Sym w0 S L w) (hi : L[i]? = some h) (e : h = h') : Sym w0 S (L.set i h') w := by
  subst e
  have : L.set i h = L := by
    apply List.ext_getElem?; intro j
    rw [List.getElem?_set]
    split
    · rename_i e; subst e; split
      · exact hi.symm
      · rename_i hn; rw [List.getElem?_eq_none (by omega)]
    · rfl
  rw [this]; exact hs
noncomputable def entV (d : Dia) (b : Nat) : Value := bif decide (checkI d = 0) then ptrV b else .pointer none
noncomputable def entH (base : Option Addr) (cap : Nat) (d : Dia) (g : Nat × Value) : HL := bif decide (checkI d = 0) then HL.all [HL.obj g.1 (.cells #[.slice base d.cross.length cap, iv d.loops, g.2] 65 (0, 0)), HL.own 87 4 g.2 (2 * d.cross.length) ((endsL d).flatMap encAE)] else HL.emp
theorem entV_ok {d : Dia} (h : checkI d = 0) (b : Nat) : entV d b = ptrV b := by rw [entV, decide_eq_true h]; rfl
theorem entV_bad {d : Dia} (h : checkI d ≠ 0) (b : Nat) : entV d b = .pointer none := by rw [entV, decide_eq_false h]; rfl
theorem entH_ok {base : Option Addr} {cap : Nat} {d : Dia} (h : checkI d = 0) (g : Nat × Value) : entH base cap d g = HL.all [HL.obj g.1 (.cells #[.slice base d.cross.length cap, iv d.loops, g.2] 65 (0, 0)), HL.own 87 4 g.2 (2 * d.cross.length) ((endsL d).flatMap encAE)] := by rw [entH, decide_eq_true h]; rfl
theorem entH_bad {base : Option Addr} {cap : Nat} {d : Dia} (h : checkI d ≠ 0) (g : Nat × Value) : entH base cap d g = HL.emp := by rw [entH, decide_eq_false h]; rfl
theorem checkI_ok {d : Dia} : checkI d = 0 ↔ SoundP d ∧ PlanarP d := by
  rw [checkI, ← soundB_iff, ← planarB_iff]
  cases soundB d <;> cases planarB d <;> simp
theorem checkI_unsound {d : Dia} (h : soundB d = false) : checkI d = 220 := by rw [checkI, h]; rfl
theorem checkI_unplanar {d : Dia} (h : SoundP d) (k : ¬ PlanarP d) : checkI d = 221 := by
  rw [checkI, soundB_iff.2 h]
  have : planarB d = false := Bool.eq_false_iff.2 (fun e => k (planarB_iff.1 e))
  rw [this]; rfl
theorem own_ends_ok {d : Dia} (h : SoundP d) (v : Value) : HL.own 87 4 v (endsN d) (endsC d) = HL.own 87 4 v (2 * d.cross.length) ((endsL d).flatMap encAE) := by simp only [endsN, endsC, soundB_iff.2 h, cond_true]
theorem DgAt.of_own {w : World} {b cap : Nat} {base : Option Addr} {A : Addr} {d : Dia} {av : Value} {t : TypeId} {fz : Nat × Nat} (hd : DiaAt w base A d) (ho : w.heap[b]? = some (.cells #[.slice base d.cross.length cap, iv d.loops, av] t fz)) (hw : w.ownsRow 0 87 4 av (2 * d.cross.length) ((endsL d).flatMap encAE)) : DgAt w b base A cap d av :=
  ⟨cell_of_obj ho rfl, cell_of_obj ho rfl, cell_of_obj ho rfl, hd, own_shape hw, own_all hw⟩
end Go.V
