/- Gluings: steps of the searches, as the loops carry them out. -/
import Derived.Test.YtbnfcbmpgjmhmaaDoorM0
import Derived.Test.YtbnfcbmpgjmhmaaDoorProg
import Derived.KernelRfl
import Derived.ProofKit
import Derived.OpenShut
import Derived.Lib.Join
import Derived.Lib.ItoaNum
import Derived.Lib.AtoiAll
import Derived.Lib.Split
namespace Go.V
open Go
theorem ttV_fAt (g : Glu) (t : Nat) {f : Nat} (hf : f < 4) : (#[iv (tAt g t).f0.tet, iv (tAt g t).f0.p.a0, iv (tAt g t).f0.p.a1, iv (tAt g t).f0.p.a2, iv (tAt g t).f0.p.a3, iv (tAt g t).f1.tet, iv (tAt g t).f1.p.a0, iv (tAt g t).f1.p.a1, iv (tAt g t).f1.p.a2, iv (tAt g t).f1.p.a3,
   iv (tAt g t).f2.tet, iv (tAt g t).f2.p.a0, iv (tAt g t).f2.p.a1, iv (tAt g t).f2.p.a2, iv (tAt g t).f2.p.a3, iv (tAt g t).f3.tet, iv (tAt g t).f3.p.a0, iv (tAt g t).f3.p.a1, iv (tAt g t).f3.p.a2, iv (tAt g t).f3.p.a3] : Array Value).extract (((f : Nat) : Int).toNat * 5) (((f : Nat) : Int).toNat * 5 + 5) =
   #[iv (fAt g t f).tet, iv (fAt g t f).p.a0, iv (fAt g t f).p.a1, iv (fAt g t f).p.a2, iv (fAt g t f).p.a3] := ttV_part (tAt g t) hf
def nints (l : List Nat) : List Value := ints (l.map Int.ofNat)
theorem nints_get {l : List Nat} {i : Nat} {u : Nat} (h : l[i]? = some u) : (nints l)[i * 1]? = some (iv u) := by
  rw [nints]; exact ints_get (by simp [h])
theorem nints_snoc (l : List Nat) (u : Nat) : nints l ++ [iv (u : Int)] = nints (l ++ [u]) := by
  simp only [nints, List.map_append, List.map_cons, List.map_nil]
  exact ints_snoc _ _
theorem oFace_pre {g : Glu} {t f : Nat} {s s' : BSt} {i u : Nat} (h : s.2[i]? = some u) (he : oFace g t f s = some s') : s'.2[i]? = some u := by
  rw [oFace] at he
  split at he
  · cases he; exact h
  · split at he
    · cases he
      show (s.2 ++ _)[i]? = _
      rw [List.getElem?_append_left (List.getElem?_eq_some_iff.1 h).1]; exact h
    · split at he
      · cases he; exact h
      · cases he
theorem oTo_pre {g : Glu} {t : Nat} {s : BSt} {i u : Nat} (h : s.2[i]? = some u) : ∀ (f : Nat) {s' : BSt}, oTo g t s f = some s' → s'.2[i]? = some u
  | 0, _, he => by cases he; exact h
  | f + 1, s', he => by
    rw [oTo] at he
    obtain ⟨s1, h1, h2⟩ := Option.bind_eq_some_iff.1 he
    exact oFace_pre (oTo_pre h f h1) h2
theorem oTo_snoc {g : Glu} {t f : Nat} {s s1 s2 : BSt} (h : oTo g t s f = some s1) (h2 : oFace g t f s1 = some s2) : oTo g t s (f + 1) = some s2 := by rw [oTo, h]; exact h2
theorem oTo_none {g : Glu} {t f : Nat} {s s1 : BSt} (h : oTo g t s f = some s1) (h2 : oFace g t f s1 = none) : ∀ d, oTo g t s (f + 1 + d) = none
  | 0 => by rw [Nat.add_zero, oTo, h]; exact h2
  | d + 1 => by rw [← Nat.add_assoc, oTo, oTo_none h h2 d]; rfl
theorem oTo_none4 {g : Glu} {t f : Nat} {s s1 : BSt} (hf : f < 4) (h : oTo g t s f = some s1) (h2 : oFace g t f s1 = none) : oTo g t s 4 = none := by
  have := oTo_none h h2 (3 - f)
  rwa [show f + 1 + (3 - f) = 4 by omega] at this
theorem oBfs_step {g : Glu} {k i u : Nat} {s : BSt} (h : s.2[i]? = some u) : oBfs g (k + 1) i s = (oTo g u s 4).bind (oBfs g k (i + 1)) := by
  have hi : i < s.2.length := (List.getElem?_eq_some_iff.1 h).1
  rw [oBfs, if_pos hi, List.getD_eq_getElem?_getD, h]; rfl
theorem oFace_free {g : Glu} {t f : Nat} {s : BSt} (h : (fAt g t f).tet < 0) : oFace g t f s = some s := by rw [oFace, if_pos h]
theorem oFace_new {g : Glu} {t f : Nat} {s : BSt} (h : ¬ (fAt g t f).tet < 0) (h0 : s.1.getD (fAt g t f).tet.toNat 0 = 0) : oFace g t f s = some (s.1.set (fAt g t f).tet.toNat (-sgnP (fAt g t f).p * s.1.getD t 0), s.2 ++ [(fAt g t f).tet.toNat]) := by rw [oFace, if_neg h, if_pos h0]
theorem oFace_same {g : Glu} {t f : Nat} {s : BSt} (h : ¬ (fAt g t f).tet < 0) (h0 : s.1.getD (fAt g t f).tet.toNat 0 ≠ 0) (h1 : s.1.getD (fAt g t f).tet.toNat 0 = -sgnP (fAt g t f).p * s.1.getD t 0) : oFace g t f s = some s := by rw [oFace, if_neg h, if_neg h0, if_pos h1]
theorem oFace_bad {g : Glu} {t f : Nat} {s : BSt} (h : ¬ (fAt g t f).tet < 0) (h0 : s.1.getD (fAt g t f).tet.toNat 0 ≠ 0) (h1 : s.1.getD (fAt g t f).tet.toNat 0 ≠ -sgnP (fAt g t f).p * s.1.getD t 0) : oFace g t f s = none := by rw [oFace, if_neg h, if_neg h0, if_neg h1]
theorem oAll_keep {g : Glu} {t : Nat} {out : List Int} (h : oAll g t = some out) (h0 : out.getD t 0 ≠ 0) : oAll g (t + 1) = some out := by rw [oAll, h]; show oNext g t out = _; rw [oNext, if_pos h0]
theorem oAll_new {g : Glu} {t : Nat} {out : List Int} (h : oAll g t = some out) (h0 : ¬ out.getD t 0 ≠ 0) : oAll g (t + 1) = (oBfs g g.length 0 (out.set t 1, [t])).map Prod.fst := by rw [oAll, h]; show oNext g t out = _; rw [oNext, if_neg h0]
theorem oAll_none {g : Glu} {t : Nat} (h : oAll g t = none) : ∀ d, oAll g (t + d) = none
  | 0 => h
  | d + 1 => by rw [← Nat.add_assoc, oAll, oAll_none h d]; rfl
theorem oriG_none {g : Glu} {t : Nat} (ht : t ≤ g.length) (h : oAll g t = none) : oriG g = none := by
  have := oAll_none h (g.length - t)
  rwa [show t + (g.length - t) = g.length by omega] at this
noncomputable def oriV (g : Glu) (b : Nat) : Value := match oriG g with
  | some _ => .tuple #[.slice (some ⟨b, 0, none⟩) g.length g.length, .bool true, iv 0]
  | none => .tuple #[.slice none 0 0, .bool false, iv 0]
noncomputable def oriH (g : Glu) (b : Nat) : List HL := match oriG g with
  | some out => [HL.own 3 1 (.slice (some ⟨b, 0, none⟩) g.length g.length) g.length (ints out)]
  | none => []
theorem oriV_some {g : Glu} {out : List Int} (h : oriG g = some out) (b : Nat) : oriV g b = .tuple #[.slice (some ⟨b, 0, none⟩) g.length g.length, .bool true, iv 0] := by rw [oriV, h]
theorem oriV_none {g : Glu} (h : oriG g = none) (b : Nat) : oriV g b = .tuple #[.slice none 0 0, .bool false, iv 0] := by rw [oriV, h]
theorem oriH_some {g : Glu} {out : List Int} (h : oriG g = some out) (b : Nat) : oriH g b = [HL.own 3 1 (.slice (some ⟨b, 0, none⟩) g.length g.length) g.length (ints out)] := by rw [oriH, h]
theorem oriH_none {g : Glu} (h : oriG g = none) (b : Nat) : oriH g b = [] := by rw [oriH, h]
theorem getD_get' {xs : List Int} {m : Nat} (h : m < xs.length) : xs[m]? = some (xs.getD m 0) := by simp [List.getD_eq_getElem?_getD, h]
end Go.V
/- Gluings: rows that are changed face by face; gluings that a call has made. -/
namespace Go.V
open Go
def ttA (t : Tt) : Array Value := #[iv t.f0.tet, iv t.f0.p.a0, iv t.f0.p.a1, iv t.f0.p.a2, iv t.f0.p.a3, iv t.f1.tet, iv t.f1.p.a0, iv t.f1.p.a1, iv t.f1.p.a2, iv t.f1.p.a3,
   iv t.f2.tet, iv t.f2.p.a0, iv t.f2.p.a1, iv t.f2.p.a2, iv t.f2.p.a3, iv t.f3.tet, iv t.f3.p.a0, iv t.f3.p.a1, iv t.f3.p.a2, iv t.f3.p.a3]
def Tt.setF (t : Tt) (f : Nat) (x : Fc) : Tt := match f with
  | 0 => { t with f0 := x }
  | 1 => { t with f1 := x }
  | 2 => { t with f2 := x }
  | _ => { t with f3 := x }
theorem setF_at (t : Tt) {f k : Nat} (x : Fc) (hf : f < 4) (hk : k < 4) : (t.setF f x).at k = if f = k then x else t.at k := by
  match f, hf, k, hk with
  | 0, _, 0, _ => rfl
  | 0, _, 1, _ => rfl
  | 0, _, 2, _ => rfl
  | 0, _, 3, _ => rfl
  | 1, _, 0, _ => rfl
  | 1, _, 1, _ => rfl
  | 1, _, 2, _ => rfl
  | 1, _, 3, _ => rfl
  | 2, _, 0, _ => rfl
  | 2, _, 1, _ => rfl
  | 2, _, 2, _ => rfl
  | 2, _, 3, _ => rfl
  | 3, _, 0, _ => rfl
  | 3, _, 1, _ => rfl
  | 3, _, 2, _ => rfl
  | 3, _, 3, _ => rfl
theorem Tt.ext_at {s t : Tt} (h : ∀ f, f < 4 → s.at f = t.at f) : s = t := by
  obtain ⟨a, b, c, d⟩ := s
  obtain ⟨a', b', c', d'⟩ := t
  have h0 := h 0 (by decide); have h1 := h 1 (by decide); have h2 := h 2 (by decide); have h3 := h 3 (by decide)
  simp only [Tt.at] at h0 h1 h2 h3
  subst h0 h1 h2 h3; rfl
/-- The first f faces are changed. -/
def chTo (h : Fc → Fc) (x : Tt) : Nat → Tt
  | 0 => x
  | f + 1 => (chTo h x f).setF f (h (x.at f))
theorem chTo_at (h : Fc → Fc) (x : Tt) : ∀ (f : Nat), f ≤ 4 → ∀ k, k < 4 → (chTo h x f).at k = if k < f then h (x.at k) else x.at k
  | 0, _, k, _ => by simp [chTo]
  | f + 1, hf, k, hk => by
    rw [chTo, setF_at _ _ (by omega) hk, chTo_at h x f (by omega) k hk]
    by_cases e : f = k
    · subst e; simp
    · by_cases e2 : k < f
      · simp [e, e2, show k < f + 1 by omega]
      · simp [e, e2, show ¬ k < f + 1 by omega]
theorem mapF_at (x : Tt) (h : Fc → Fc) {k : Nat} (hk : k < 4) : (mapF x h).at k = h (x.at k) := by
  match k, hk with
  | 0, _ => rfl
  | 1, _ => rfl
  | 2, _ => rfl
  | 3, _ => rfl
theorem chTo_four (h : Fc → Fc) (x : Tt) : chTo h x 4 = mapF x h := Tt.ext_at fun f hf => by rw [chTo_at h x 4 (Nat.le_refl 4) f hf, if_pos hf, mapF_at x h hf]
theorem chTo_cur (h : Fc → Fc) (x : Tt) {f : Nat} (hf : f < 4) : (chTo h x f).at f = x.at f := by rw [chTo_at h x f (by omega) f hf, if_neg (by omega)]
theorem nth_ttA (t : Tt) {f : Nat} (hf : f < 4) : nth (ttA t).toList (0 + f * 5 + 0) = some (iv (t.at f).tet) := by
  match f, hf with
  | 0, _ => rfl
  | 1, _ => rfl
  | 2, _ => rfl
  | 3, _ => rfl
theorem nth_chTo (h : Fc → Fc) (x : Tt) {f : Nat} (hf : f < 4) : nth (ttA (chTo h x f)).toList (0 + f * 5 + 0) = some (iv (x.at f).tet) := by rw [nth_ttA _ hf, chTo_cur h x hf]
/-- The number of the tetrahedron is written. -/
theorem ttA_tet (t : Tt) {f : Nat} (hf : f < 4) (y : Int) : (ttA t).setIfInBounds (0 + f * 5 + 0) (iv y) = ttA (t.setF f ⟨y, (t.at f).p⟩) := by
  match f, hf with
  | 0, _ => rfl
  | 1, _ => rfl
  | 2, _ => rfl
  | 3, _ => rfl
theorem chTo_tet {h : Fc → Fc} {x : Tt} {f : Nat} {y : Int} (hf : f < 4) (e : h (x.at f) = ⟨y, (x.at f).p⟩) : (ttA (chTo h x f)).setIfInBounds (0 + f * 5 + 0) (iv y) = ttA (chTo h x (f + 1)) := by
  rw [ttA_tet _ hf, chTo_cur h x hf, chTo, e]
theorem chTo_keep {h : Fc → Fc} {x : Tt} {f : Nat} (hf : f < 4) (e : h (x.at f) = x.at f) : chTo h x (f + 1) = chTo h x f := Tt.ext_at fun k hk => by
  rw [chTo, setF_at _ _ hf hk]
  by_cases e2 : f = k
  · subst e2; rw [if_pos rfl, e, chTo_cur h x hf]
  · rw [if_neg e2]
/-- A face is written whole. -/
theorem ttA_fc (t : Tt) {f : Nat} (hf : f < 4) (y : Fc) : putAll (ttA t) (0 + f * 5) [iv y.tet, iv y.p.a0, iv y.p.a1, iv y.p.a2, iv y.p.a3] = ttA (t.setF f y) := by
  match f, hf with
  | 0, _ => rfl
  | 1, _ => rfl
  | 2, _ => rfl
  | 3, _ => rfl
abbrev zA20 : Array Value := #[.int .i64 0, .int .i64 0, .int .i64 0, .int .i64 0, .int .i64 0, .int .i64 0, .int .i64 0, .int .i64 0, .int .i64 0, .int .i64 0, .int .i64 0, .int .i64 0, .int .i64 0, .int .i64 0, .int .i64 0, .int .i64 0, .int .i64 0, .int .i64 0, .int .i64 0, .int .i64 0]
theorem putAll_list : ∀ (vs : List Value) (cs : Array Value) (k : Nat), k + vs.length ≤ cs.size → (putAll cs k vs).toList = cs.toList.take k ++ vs ++ cs.toList.drop (k + vs.length)
  | [], cs, k, _ => by simp [putAll]
  | v :: r, cs, k, h => by
    simp only [List.length_cons] at h
    rw [putAll, putAll_list r _ _ (by simp; omega)]
    have hk : k < cs.toList.length := by simp; omega
    rw [Array.toList_setIfInBounds, List.length_cons, show k + (r.length + 1) = k + 1 + r.length by omega, List.take_add_one, List.take_set, List.drop_set, if_pos (by omega)]
    rw [List.set_eq_of_length_le (by simp; omega)]
    have e : (cs.toList.set k v)[k]? = some v := by rw [List.getElem?_set_self hk]
    rw [e]
    simp
theorem putAll_whole {cs : Array Value} {vs : List Value} (h : vs.length = cs.size) : putAll cs 0 vs = vs.toArray := by
  apply Array.toList_inj.1
  rw [putAll_list vs cs 0 (by omega)]
  simp [h]
theorem putT (t : Tt) : putAll zA20 0 (ttV t).cells.toList = ttA t := putAll_whole (vs := encT t) (cs := zA20) rfl
def ownG (g : Option Addr × Nat) (d : Glu) : HL := HL.own 37 20 (.slice g.1 d.length g.2) d.length (d.flatMap encT)
theorem flatT_snoc (g : Glu) (x : Tt) : g.flatMap encT ++ encT x = (g ++ [x]).flatMap encT := by simp
theorem encT_one (g : Glu) : (g.flatMap encT).all Value.oneCell' = true := by
  rw [List.all_eq_true]
  intro v hv
  obtain ⟨t, _, ht⟩ := List.mem_flatMap.1 hv
  simp only [encT, List.mem_cons, List.not_mem_nil, or_false] at ht
  rcases ht with rfl | rfl | rfl | rfl | rfl | rfl | rfl | rfl | rfl | rfl | rfl | rfl | rfl | rfl | rfl | rfl | rfl | rfl | rfl | rfl <;> rfl
theorem GluAt.cells {w : World} {base : Option Addr} {A : Addr} {g : Glu} (h : GluAt w base A g) : Cells w A (g.flatMap encT) := fun j v hj => by
  rw [flat_get_inv encT_len (by decide)] at hj
  obtain ⟨t, ht, hv⟩ := Option.bind_eq_some_iff.1 hj
  have := h.cell _ t ht _ v hv
  rw [add_add] at this
  rwa [show j / 20 * 20 + j % 20 = j by omega] at this
theorem GluAt.of_cells {w : World} {base : Option Addr} {A : Addr} {g : Glu} (hb : 0 < g.length → base = some A) (hc : Cells w A (g.flatMap encT)) (hl : g.length ≤ 9223372036854775807) : GluAt w base A g :=
  ⟨hb, fun i x hi j v hj => by rw [add_add]; exact hc _ v (flat_get encT_len hi hj), hl⟩
theorem GluAt.of_ownG {w : World} {q : Option Addr × Nat} {g : Glu} (hl : g.length ≤ 9223372036854775807) (ho : (ownG q g).holds w) : GluAt w q.1 (vaddr (.slice q.1 g.length q.2)) g := by
  have ho' : w.ownsRow 0 37 20 (.slice q.1 g.length q.2) g.length (g.flatMap encT) := ho
  refine GluAt.of_cells (fun h0 => ?_) (own_all ho') hl
  obtain ⟨b, c, e, hb⟩ := own_shape ho'
  simp only [Value.slice.injEq] at e
  exact e.1.trans (hb h0)
theorem okG_tet {g : Glu} (h : okG g = true) {t f : Nat} (ht : t < g.length) (hf : f < 4) : -1 ≤ (fAt g t f).tet ∧ (fAt g t f).tet < g.length := by
  rcases okG_cases h ht hf with e | e
  · rw [e]; exact ⟨by decide, by show (-1 : Int) < _; omega⟩
  · exact ⟨by have := e.lo; omega, e.hi⟩
end Go.V
/- Gluings: faces that are written one after the other. -/
namespace Go.V
open Go
def setFc (d : Glu) (t f : Nat) (x : Fc) : Glu := d.set t ((tAt d t).setF f x)
@[simp] theorem setFc_len (d : Glu) (t f : Nat) (x : Fc) : (setFc d t f x).length = d.length := by simp [setFc]
theorem tAt_set {d : Glu} {t u : Nat} {x : Tt} (ht : t < d.length) : tAt (d.set t x) u = if t = u then x else tAt d u := by
  simp only [tAt, List.getD_eq_getElem?_getD]
  by_cases e : t = u
  · subst e; simp [ht]
  · rw [if_neg e, List.getElem?_set_ne e]
theorem fAt_setFc {d : Glu} {t f u k : Nat} {x : Fc} (ht : t < d.length) (hf : f < 4) (hk : k < 4) : fAt (setFc d t f x) u k = if t = u ∧ f = k then x else fAt d u k := by
  rw [fAt, setFc, tAt_set ht]
  by_cases e : t = u
  · subst e
    rw [if_pos rfl, setF_at _ _ hf hk]
    by_cases e2 : f = k <;> simp [e2, fAt]
  · simp [e, fAt]
theorem Glu.ext_fAt {a b : Glu} (hl : a.length = b.length) (h : ∀ t f, t < a.length → f < 4 → fAt a t f = fAt b t f) : a = b := by
  apply List.ext_getElem?
  intro t
  rcases Nat.lt_or_ge t a.length with ht | ht
  · rw [tAt_get ht, tAt_get (by omega), Tt.ext_at (h t · ht)]
  · rw [List.getElem?_eq_none ht, List.getElem?_eq_none (by omega)]
theorem setFc_same {d : Glu} {t f : Nat} (ht : t < d.length) (hf : f < 4) : setFc d t f (fAt d t f) = d :=
  Glu.ext_fAt (by simp) fun u k hu hk => by
    rw [fAt_setFc ht hf hk]
    by_cases e : t = u ∧ f = k
    · rw [if_pos e, e.1, e.2]
    · rw [if_neg e]
/-- The faces ahead of j are changed. -/
def cgTo (d : Glu) (h : Nat → Nat → Fc → Fc) : Nat → Glu
  | 0 => d
  | j + 1 => setFc (cgTo d h j) (j / 4) (j % 4) (h (j / 4) (j % 4) (fAt d (j / 4) (j % 4)))
@[simp] theorem cgTo_len (d : Glu) (h : Nat → Nat → Fc → Fc) : ∀ j, (cgTo d h j).length = d.length
  | 0 => rfl
  | j + 1 => by rw [cgTo, setFc_len, cgTo_len d h j]
/-- All faces are changed. -/
def cgAll (d : Glu) (h : Nat → Nat → Fc → Fc) : Glu := (List.range d.length).map fun t => ⟨h t 0 (fAt d t 0), h t 1 (fAt d t 1), h t 2 (fAt d t 2), h t 3 (fAt d t 3)⟩
@[simp] theorem cgAll_len (d : Glu) (h : Nat → Nat → Fc → Fc) : (cgAll d h).length = d.length := by simp [cgAll]
theorem cgAll_at (d : Glu) (h : Nat → Nat → Fc → Fc) {t f : Nat} (ht : t < d.length) (hf : f < 4) : fAt (cgAll d h) t f = h t f (fAt d t f) := by
  have e : tAt (cgAll d h) t = ⟨h t 0 (fAt d t 0), h t 1 (fAt d t 1), h t 2 (fAt d t 2), h t 3 (fAt d t 3)⟩ := tAt_eq (by simp [cgAll, ht])
  rw [fAt, e]
  match f, hf with
  | 0, _ => rfl
  | 1, _ => rfl
  | 2, _ => rfl
  | 3, _ => rfl
/-- Two faces in each round: those of two copies. -/
def cg2To (d : Glu) (n : Nat) (h : Nat → Nat → Fc → Fc) : Nat → Glu
  | 0 => d
  | j + 1 => setFc (setFc (cg2To d n h j) (j / 4) (j % 4) (h (j / 4) (j % 4) (fAt d (j / 4) (j % 4)))) (j / 4 + n) (j % 4) (h (j / 4 + n) (j % 4) (fAt d (j / 4 + n) (j % 4)))
@[simp] theorem cg2To_len (d : Glu) (n : Nat) (h : Nat → Nat → Fc → Fc) : ∀ j, (cg2To d n h j).length = d.length
  | 0 => rfl
  | j + 1 => by rw [cg2To, setFc_len, setFc_len, cg2To_len d n h j]
theorem cg2To_at (d : Glu) {n : Nat} (hn : d.length = 2 * n) (h : Nat → Nat → Fc → Fc) : ∀ j, j ≤ 4 * n → ∀ t f, f < 4 → fAt (cg2To d n h j) t f = if (t < n ∧ 4 * t + f < j) ∨ (n ≤ t ∧ 4 * (t - n) + f < j) then h t f (fAt d t f) else fAt d t f
  | 0, _, t, f, _ => by simp [cg2To]
  | j + 1, hj, t, f, hf => by
    rw [cg2To, fAt_setFc (by rw [setFc_len, cg2To_len]; omega) (by omega) hf, fAt_setFc (by rw [cg2To_len]; omega) (by omega) hf, cg2To_at d hn h j (by omega) t f hf]
    by_cases e : j / 4 + n = t ∧ j % 4 = f
    · obtain ⟨rfl, rfl⟩ := e
      rw [if_pos ⟨rfl, rfl⟩, if_pos (by right; omega)]
    · rw [if_neg e]
      by_cases e2 : j / 4 = t ∧ j % 4 = f
      · obtain ⟨rfl, rfl⟩ := e2
        rw [if_pos ⟨rfl, rfl⟩, if_pos (by left; omega)]
      · rw [if_neg e2]
        by_cases e3 : (t < n ∧ 4 * t + f < j) ∨ (n ≤ t ∧ 4 * (t - n) + f < j)
        · rw [if_pos e3, if_pos (by omega)]
        · rw [if_neg e3, if_neg (by omega)]
theorem cg2To_all (d : Glu) {n : Nat} (hn : d.length = 2 * n) (h : Nat → Nat → Fc → Fc) : cg2To d n h (4 * n) = cgAll d h :=
  Glu.ext_fAt (by simp) fun t f ht hf => by
    rw [cg2To_len] at ht
    rw [cg2To_at d hn h _ (Nat.le_refl _) t f hf, if_pos (by omega), cgAll_at d h ht hf]
theorem cg2To_step (d : Glu) (n : Nat) (h : Nat → Nat → Fc → Fc) (t : Nat) {f : Nat} (hf : f < 4) : cg2To d n h (4 * t + f + 1) = setFc (setFc (cg2To d n h (4 * t + f)) t f (h t f (fAt d t f))) (t + n) f (h (t + n) f (fAt d (t + n) f)) := by
  rw [cg2To, show (4 * t + f) / 4 = t by omega, show (4 * t + f) % 4 = f by omega]
theorem cg2To_cur {d : Glu} {n : Nat} (hn : d.length = 2 * n) {h : Nat → Nat → Fc → Fc} {t f : Nat} (ht : t < n) (hf : f < 4) : fAt (cg2To d n h (4 * t + f)) t f = fAt d t f ∧ fAt (cg2To d n h (4 * t + f)) (t + n) f = fAt d (t + n) f := by
  constructor
  · rw [cg2To_at d hn h _ (by omega) t f hf, if_neg (by omega)]
  · rw [cg2To_at d hn h _ (by omega) (t + n) f hf, if_neg (by omega)]
theorem cg2To_keep {d : Glu} {n : Nat} (hn : d.length = 2 * n) {h : Nat → Nat → Fc → Fc} {t f : Nat} (ht : t < n) (hf : f < 4) (e : h t f (fAt d t f) = fAt d t f) (e2 : h (t + n) f (fAt d (t + n) f) = fAt d (t + n) f) : cg2To d n h (4 * t + f + 1) = cg2To d n h (4 * t + f) := by
  obtain ⟨c1, c2⟩ := cg2To_cur (d := d) hn (h := h) ht hf
  rw [cg2To_step d n h t hf, e, e2, ← c1, setFc_same (by rw [cg2To_len]; omega) hf, ← c2, setFc_same (by rw [cg2To_len]; omega) hf]
theorem flatT_get {d : Glu} {t f j : Nat} {u : Value} (ht : t < d.length) (hf : f < 4) (h : (encF (fAt d t f))[j]? = some u) : (d.flatMap encT)[t * 20 + f * 5 + j]? = some u := by
  rw [Nat.add_assoc]
  exact flat_get encT_len (tAt_get ht) (encT_at _ hf h)
theorem setF_enc (x : Tt) {f : Nat} (hf : f < 4) (y : Fc) : ∀ i, i < 20 → (encT (x.setF f y))[i]? = if f * 5 ≤ i ∧ i < f * 5 + 5 then (encF y)[i - f * 5]? else (encT x)[i]? := fun i hi => by
  have hd : i = i / 5 * 5 + i % 5 := by omega
  have hk : i / 5 < 4 := by omega
  have hj : i % 5 < 5 := Nat.mod_lt _ (by decide)
  have e1 : (encT (x.setF f y))[i]? = (encF ((x.setF f y).at (i / 5)))[i % 5]? := by
    have hl : i % 5 < (encF ((x.setF f y).at (i / 5))).length := by rw [encF_len]; exact hj
    rw [List.getElem?_eq_getElem hl]
    have := encT_at (x.setF f y) (j := i % 5) hk (List.getElem?_eq_getElem hl)
    rwa [← hd] at this
  have e2 : (encT x)[i]? = (encF (x.at (i / 5)))[i % 5]? := by
    have hl : i % 5 < (encF (x.at (i / 5))).length := by rw [encF_len]; exact hj
    rw [List.getElem?_eq_getElem hl]
    have := encT_at x (j := i % 5) hk (List.getElem?_eq_getElem hl)
    rwa [← hd] at this
  rw [e1, e2, setF_at _ _ hf hk]
  by_cases e : f = i / 5
  · subst e
    rw [if_pos rfl, if_pos (by omega), show i - i / 5 * 5 = i % 5 by omega]
  · rw [if_neg e, if_neg (by omega)]
/-- A face is written whole. -/
theorem setFc_flat {d : Glu} {t f : Nat} (ht : t < d.length) (hf : f < 4) (y : Fc) : ∀ i, ((setFc d t f y).flatMap encT)[i]? = if t * 20 + f * 5 ≤ i ∧ i < t * 20 + f * 5 + 5 then (encF y)[i - (t * 20 + f * 5)]? else (d.flatMap encT)[i]? := fun i => by
  rw [setFc, flat_set encT_len (by decide) _ ht]
  by_cases e : t * 20 ≤ i ∧ i < t * 20 + 20
  · rw [if_pos e, setF_enc _ hf y _ (by omega)]
    by_cases e2 : f * 5 ≤ i - t * 20 ∧ i - t * 20 < f * 5 + 5
    · rw [if_pos e2, if_pos (by omega), show i - t * 20 - f * 5 = i - (t * 20 + f * 5) by omega]
    · rw [if_neg e2, if_neg (by omega)]
      have hl : i - t * 20 < (encT (tAt d t)).length := by rw [encT_len]; omega
      have := flat_get encT_len (tAt_get ht) (List.getElem?_eq_getElem hl)
      rw [show t * 20 + (i - t * 20) = i by omega] at this
      rw [this, List.getElem?_eq_getElem hl]
  · rw [if_neg e, if_neg (by omega)]
/-- The number of a face's tetrahedron is written. -/
theorem setTet_flat {d : Glu} {t f : Nat} (ht : t < d.length) (hf : f < 4) (y : Int) : (d.flatMap encT).set (t * 20 + f * 5 + 0) (iv y) = (setFc d t f ⟨y, (fAt d t f).p⟩).flatMap encT := by
  apply List.ext_getElem?
  intro i
  rw [setFc_flat ht hf, List.getElem?_set]
  have hL := flat_len encT_len d
  by_cases e : t * 20 + f * 5 + 0 = i
  · subst e
    rw [if_pos rfl, if_pos (by rw [hL]; omega), if_pos (by omega)]
    simp [encF]
  · rw [if_neg e]
    by_cases e2 : t * 20 + f * 5 ≤ i ∧ i < t * 20 + f * 5 + 5
    · rw [if_pos e2]
      have hj : i - (t * 20 + f * 5) < (encF (fAt d t f)).length := by rw [encF_len]; omega
      have h1 := flatT_get ht hf (List.getElem?_eq_getElem hj)
      rw [show t * 20 + f * 5 + (i - (t * 20 + f * 5)) = i by omega] at h1
      rw [h1, ← List.getElem?_eq_getElem hj]
      obtain ⟨k, hk⟩ : ∃ k, i - (t * 20 + f * 5) = k + 1 := ⟨i - (t * 20 + f * 5) - 1, by omega⟩
      rw [hk]; simp [encF]
    · rw [if_neg e2]
def twH (n : Nat) (_ _ : Nat) (x : Fc) : Fc := if 0 ≤ x.tet ∧ sgnP x.p = 1 then ⟨(x.tet + n) % (2 * n), x.p⟩ else x
def dbH (n : Nat) (t _ : Nat) (x : Fc) : Fc := if x.tet < 0 then ⟨((t : Int) + n) % (2 * n), idP⟩ else x
def twoG (g : Glu) : Glu := cgAll (uniG g g) (twH g.length)
def dblG (g : Glu) : Glu := cgAll (uniG g g) (dbH g.length)
theorem uniG_len' (a b : Glu) : (uniG a b).length = a.length + b.length := by simp [uniG]
theorem uniG_lo {a b : Glu} {t f : Nat} (ht : t < a.length) : fAt (uniG a b) t f = fAt a t f := by
  have e : tAt (uniG a b) t = tAt a t := tAt_eq (by rw [uniG, List.getElem?_append_left ht]; exact tAt_get ht)
  rw [fAt, e, fAt]
theorem uniG_hi {a b : Glu} {t f : Nat} (ht : t < b.length) (hf : f < 4) : fAt (uniG a b) (t + a.length) f = shF a.length (fAt b t f) := by
  have e : tAt (uniG a b) (t + a.length) = mapF (tAt b t) (shF a.length) := tAt_eq (by
    rw [uniG, List.getElem?_append_right (by omega), List.getElem?_map, show t + a.length - a.length = t by omega, tAt_get ht]; rfl)
  rw [fAt, e, mapF_at _ _ hf]; rfl
theorem twoG_len (g : Glu) : (twoG g).length = 2 * g.length := by rw [twoG, cgAll_len, uniG_len']; omega
theorem dblG_len (g : Glu) : (dblG g).length = 2 * g.length := by rw [dblG, cgAll_len, uniG_len']; omega
end Go.V
/- Renumbered gluings; lists of permutations as arguments. -/
namespace Go.V
open Go
/-- A list of numbers lies in memory. -/
structure LisAt (w : World) (base : Option Addr) (A : Addr) (xs : List Int) : Prop where
  base : 0 < xs.length → base = some A
  cell : Cells w A (ints xs)
  len : xs.length ≤ 9223372036854775807
theorem LisAt.old {w w' : World} {base : Option Addr} {A : Addr} {xs : List Int} (h : LisAt w base A xs) (ho : Old Nil w w') : LisAt w' base A xs := ⟨h.base, fun j v hj => ho.cell (h.cell j v hj) (fun x => x), h.len⟩
theorem LisAt.sym {w w' : World} {L : List HL} {base : Option Addr} {A : Addr} {xs : List Int} (h : LisAt w base A xs) (hs : Sym w Nil L w') : LisAt w' base A xs := h.old hs.old
theorem LisAt.shape {w : World} {base : Option Addr} {A : Addr} {cap : Nat} {xs : List Int} (h : LisAt w base A xs) : Shape (lisV base cap xs) xs.length := shape_slice h.base
theorem LisAt.cells {w : World} {base : Option Addr} {A : Addr} {cap : Nat} {xs : List Int} (h : LisAt w base A xs) (n : Nat) : Cells w (vaddr (.slice base n cap)) (ints xs) := by
  rcases Nat.eq_zero_or_pos xs.length with h0 | h0
  · have e : xs = [] := List.length_eq_zero_iff.1 h0
    subst e
    intro j v hj; simp [ints] at hj
  · rw [h.base h0]; exact h.cell
structure PermsAt (w : World) (base : Option Addr) (A : Addr) (ps : List P4) : Prop where
  base : 0 < ps.length → base = some A
  cell : ∀ (i : Nat) (p : P4), ps[i]? = some p → Cells w (A.add (i * 4)) (encP p)
  len : ps.length ≤ 9223372036854775807
theorem PermsAt.old {w w' : World} {base : Option Addr} {A : Addr} {ps : List P4} (h : PermsAt w base A ps) (ho : Old Nil w w') : PermsAt w' base A ps :=
  ⟨h.base, fun i x hi j v hj => ho.cell (h.cell i x hi j v hj) (fun x => x), h.len⟩
theorem PermsAt.sym {w w' : World} {L : List HL} {base : Option Addr} {A : Addr} {ps : List P4} (h : PermsAt w base A ps) (hs : Sym w Nil L w') : PermsAt w' base A ps := h.old hs.old
theorem encP_get (p : P4) {k : Nat} (hk : k < 4) : (encP p)[k]? = some (iv (p.at k)) := by
  match k, hk with
  | 0, _ => rfl
  | 1, _ => rfl
  | 2, _ => rfl
  | 3, _ => rfl
theorem PermsAt.one {w : World} {base : Option Addr} {A : Addr} {ps : List P4} (h : PermsAt w base A ps) {i k : Nat} {p : P4} (hi : ps[i]? = some p) (hk : k < 4) : w.cell? ((A.add (i * 4)).add (k * 1)) = some (iv (p.at k)) := by
  rw [Nat.mul_one]; exact h.cell i p hi k _ (encP_get p hk)
theorem PermsAt.cells {w : World} {base : Option Addr} {A : Addr} {ps : List P4} (h : PermsAt w base A ps) : Cells w A (ps.flatMap encP) := fun j v hj => by
  rw [flat_get_inv encP_len (by decide)] at hj
  obtain ⟨t, ht, hv⟩ := Option.bind_eq_some_iff.1 hj
  have := h.cell _ t ht _ v hv
  rw [add_add] at this
  rwa [show j / 4 * 4 + j % 4 = j by omega] at this
def mtTo (xs : List Int) (n : Nat) : Nat → List Bool
  | 0 => List.replicate n false
  | i + 1 => (mtTo xs n i).set (xs.getD i 0).toNat true
def bkTo (xs : List Int) (n : Nat) : Nat → List Int
  | 0 => List.replicate n 0
  | i + 1 => (bkTo xs n i).set (xs.getD i 0).toNat i
@[simp] theorem mtTo_len (xs : List Int) (n : Nat) : ∀ i, (mtTo xs n i).length = n
  | 0 => by simp [mtTo]
  | i + 1 => by simp [mtTo, mtTo_len xs n i]
@[simp] theorem bkTo_len (xs : List Int) (n : Nat) : ∀ i, (bkTo xs n i).length = n
  | 0 => by simp [bkTo]
  | i + 1 => by simp [bkTo, bkTo_len xs n i]
def pAt (ps : List P4) (i : Nat) : P4 := ps.getD i idP
def bkI (xs : List Int) (n : Nat) (t : Int) : Int := (bkTo xs n n).getD t.toNat 0
def renF (xs : List Int) (ps : List P4) (n i : Nat) (x : Fc) : Fc :=
  if x.tet < 0 then noF else ⟨bkI xs n x.tet, compP (invP (pAt ps (bkI xs n x.tet).toNat)) (compP x.p (pAt ps i))⟩
def renH (g : Glu) (xs : List Int) (ps : List P4) (i f : Nat) : Fc := renF xs ps g.length i (fAt g (xs.getD i 0).toNat ((pAt ps i).at f).toNat)
def renRow (g : Glu) (xs : List Int) (ps : List P4) (i : Nat) : Tt := ⟨renH g xs ps i 0, renH g xs ps i 1, renH g xs ps i 2, renH g xs ps i 3⟩
def renG (g : Glu) (xs : List Int) (ps : List P4) : Glu := (List.range g.length).map (renRow g xs ps)
@[simp] theorem renG_len (g : Glu) (xs : List Int) (ps : List P4) : (renG g xs ps).length = g.length := by simp [renG]
end Go.V
/- Gluings, permutations and lists as arguments: opened. -/
namespace Go.Proofs
open Go Go.V Go.ChangeShapes Go.WideShapes
set_option maxRecDepth 20000
section
variable {H : Type} {enc : TypeId × Value → H} {w : World} {base : Nat} {sp : Nat → Bool} {held : Bool}
theorem some_of_len {α : Type} {xs : List α} {n i : Nat} (h : xs.length = n) (hi : i < n) : ∃ y, xs[i]? = some y := ⟨xs[i]'(by omega), by simp⟩
theorem in64_of_wf {n : Int} (h : (Lit.int .i64 n).wf = true) : In64 n := by
  simp [Lit.wf, IntKind.min, IntKind.max, IntKind.bits, IntKind.signed] at h
  exact ⟨by omega, by omega⟩
theorem open_int3 {n : Nat} {cs : List Value} {y : DataW H × List MemPlace} (h : DataW.trod enc Tryd.prog w base sp held n 3 cs = some y) : ∃ k : Int, cs = [iv k] ∧ In64 k := by
  obtain ⟨k, e, _, hw⟩ := DataW.trod_int Tryd.underlying3 h
  exact ⟨k, e, in64_of_wf hw⟩
theorem c3 : Tryd.prog.cellsOf 3 = 1 := by kernel_rfl
theorem c32 : Tryd.prog.cellsOf 23 = 4 := by kernel_rfl
theorem open_p4 {n : Nat} {v0 v1 v2 v3 : Value} {x : DataW H × List MemPlace} (h : DataW.trod enc Tryd.prog w base sp held n 23 [v0, v1, v2, v3] = some x) : ∃ p : P4, [v0, v1, v2, v3] = encP p := by
  obtain ⟨zs, m, _, _, _, hzl, hz⟩ := DataW.trod_array Tryd.underlying23 h
  have z0 := hz 0 (by decide); have z1 := hz 1 (by decide); have z2 := hz 2 (by decide); have z3 := hz 3 (by decide)
  obtain ⟨u0, q0⟩ := some_of_len hzl (i := 0) (by decide)
  obtain ⟨u1, q1⟩ := some_of_len hzl (i := 1) (by decide)
  obtain ⟨u2, q2⟩ := some_of_len hzl (i := 2) (by decide)
  obtain ⟨u3, q3⟩ := some_of_len hzl (i := 3) (by decide)
  rw [q0] at z0; rw [q1] at z1; rw [q2] at z2; rw [q3] at z3
  rw [c3] at z0 z1 z2 z3
  obtain ⟨k0, g0, _⟩ := open_int3 z0
  obtain ⟨k1, g1, _⟩ := open_int3 z1
  obtain ⟨k2, g2, _⟩ := open_int3 z2
  obtain ⟨k3, g3, _⟩ := open_int3 z3
  simp at g0 g1 g2 g3
  subst g0; subst g1; subst g2; subst g3
  exact ⟨⟨k0, k1, k2, k3⟩, rfl⟩
theorem okWide_array {r : Reach} {b0 : Nat} {v : Value} {t e : TypeId} {n : Nat} (ht : Tryd.prog.underlying t = some (.array n e)) (h : Value.okWide Tryd.prog w r b0 t v) : ∃ cs, v = .agg cs ∧ cs.size = Tryd.prog.cellsOf t := by
  simp only [Value.okWide, ht] at h
  obtain ⟨cs, h1, h2, _⟩ := h
  exact ⟨cs, h1, h2⟩
theorem open_perm {r : Reach} {b0 : Nat} {v : Value} {x : DataW H} {ps : List MemPlace} (hv : Value.okWide Tryd.prog w r b0 23 v) (h : DataW.Trod enc Tryd.prog w base sp held 23 v x ps) : ∃ p, v = p4V p := by
  obtain ⟨cs, rfl, hsz⟩ := okWide_array Tryd.underlying23 hv
  obtain ⟨l⟩ := cs
  obtain ⟨fuel, h⟩ := h
  change DataW.trod enc Tryd.prog w base sp held fuel 23 l = _ at h
  obtain ⟨xs, m, _, _, hl, _, _⟩ := DataW.trod_array Tryd.underlying23 h
  rw [c32] at hl
  match l, hl with
  | [v0, v1, v2, v3], _ =>
    obtain ⟨p, hp⟩ := open_p4 h
    exact ⟨p, by rw [hp]; rfl⟩
end
end Go.Proofs
/- Permutations: contracts of both texts. -/
namespace Go.Proofs
open Go Go.V
set_option maxRecDepth 20000
theorem gl_Valid (p : P4) (w : World) : Gives Tryd.prog 5 #[p4V p] w Nil (fun _ : Unit => True) (fun _ => .bool (okP p)) (fun _ => []) := by
  refine fn_of_run (S := Nil) (args := [p4V p]) (n := 23) (L := []) Tryd.func5 rfl Tryd.ntmps5 (Nat.le_of_ble_eq_true rfl) (Sym.nil _ _) ?_
  change RunC _ _ _ [(0, _)] _
  refine RunC.seq ?_
  refine RunC.region ?_
  refine RunL.grows rfl rfl rfl (Grows.box rfl rfl) (fun b1 _ => ?_)
  refine RunL.still rfl rfl rfl (Still.assign rfl rfl) ?_
  refine RunL.nil ?_
  refine Ends.then ?_
  refine RunC.seq ?_
  refine RunC.region ?_
  refine RunL.still rfl rfl rfl (Still.assign rfl rfl) ?_
  refine RunL.nil ?_
  refine Ends.then ?_
  refine RunC.seq ?_
  refine RunC.seq ?_
  refine RunC.region ?_
  refine RunL.still rfl rfl rfl (Still.loads rfl rfl Tryd.isAgg23 Tryd.sizeOf23 (vs := [_, _, _, _]) rfl (fun _ hs => cells_nth (hs.at (i := 0) rfl) ⟨rfl, ⟨rfl, ⟨rfl, ⟨rfl, trivial⟩⟩⟩⟩)) ?_
  refine RunL.still rfl rfl rfl (Still.move rfl rfl) ?_
  refine RunL.nil ?_
  refine Ends.then ?_
  refine RunC.block ?_
  refine RunC.loop2 (γ := Nat) (keep := [(6, _)]) (hkeep := [_]) (fun i => i ≤ 4 ∧ ∀ j, j < i → 0 ≤ p.at j ∧ p.at j ≤ 3) (fun i => 4 - i) (fun i => [(3, iv (bitsTo p i)), (7, iv i)]) (fun i => []) 0 ⟨by omega, fun j h => absurd h (Nat.not_lt_zero j)⟩ (Fr.Sub.cons rfl (Fr.Sub.cons rfl (Fr.Sub.nil _))) (Fr.Sub.cons rfl (Fr.Sub.nil _)) (HSub.pick 0 rfl (HSub.nil _)) ?_
  rintro i ⟨hi, hB⟩
  refine RunC.seq ?_
  refine RunC.region ?_
  refine RunL.still rfl rfl rfl (Still.lss rfl rfl rfl) ?_
  refine RunL.nil ?_
  refine Ends.then ?_
  refine RunC.seq ?_
  refine RunC.cond rfl (fun h8 => ?_) (fun h8 => ?_)
  · have h8 := of_decide_eq_true h8
    have hi4 : i < 4 := by omega
    refine RunC.skip ?_
    refine Ends.then ?_
    refine RunC.seq ?_
    refine RunC.block ?_
    refine RunC.seq ?_
    refine RunC.region ?_
    refine RunL.still rfl rfl rfl (Still.index rfl rfl rfl Tryd.underlying23 Tryd.sizeOf3 Tryd.isAgg3 ⟨by omega, by omega⟩ (p4_indexN hi4)) ?_
    refine RunL.still rfl rfl rfl (Still.assign rfl rfl) ?_
    refine RunL.nil ?_
    refine Ends.then ?_
    refine RunC.seq ?_
    refine RunC.seq ?_
    refine RunC.region ?_
    refine RunL.still rfl rfl rfl (Still.move rfl rfl) ?_
    refine RunL.still rfl rfl rfl (Still.lss rfl rfl rfl) ?_
    refine RunL.still rfl rfl rfl (Still.move rfl rfl) ?_
    refine RunL.split (t := 12) rfl (fun h12 => ?_) (fun h12 => ?_)
    · have h12 := of_decide_eq_true h12
      refine RunL.off rfl rfl rfl ?_
      refine RunL.off rfl rfl rfl ?_
      refine RunL.still rfl rfl rfl (Still.pickT rfl rfl rfl) ?_
      refine RunL.nil ?_
      refine Ends.then ?_
      refine RunC.cond_true rfl ?_
      refine RunC.seq ?_
      refine RunC.region ?_
      refine RunL.still rfl rfl rfl (Still.assign rfl rfl) ?_
      refine RunL.nil ?_
      refine Ends.then ?_
      refine RunC.ret ?_
      refine Ends.then_ret ?_
      refine Ends.block_ret ?_
      refine Ends.then_ret ?_
      refine Ends.then_ret ?_
      refine Ends.block_ret ?_
      refine Ends.then_ret ?_
      refine Ends.leave (.inl rfl) (fun _ _ ok => results1 Tryd.results5 (Holds.tmp rfl) ok) (fun w1 hs => ?_)
      exact Ret.intro () trivial (congrArg Value.bool (okP_lo (i := i) (by omega)).symm) (HSub.nil _) hs
    · have h12 := of_decide_eq_false h12
      refine RunL.still rfl rfl rfl (Still.move rfl rfl) ?_
      refine RunL.still rfl rfl rfl (Still.gtr rfl rfl rfl) ?_
      refine RunL.still rfl rfl rfl (Still.pickF rfl rfl rfl) ?_
      refine RunL.nil ?_
      refine Ends.then ?_
      refine RunC.cond rfl (fun h15 => ?_) (fun h15 => ?_)
      · have h15 := of_decide_eq_true h15
        refine RunC.seq ?_
        refine RunC.region ?_
        refine RunL.still rfl rfl rfl (Still.assign rfl rfl) ?_
        refine RunL.nil ?_
        refine Ends.then ?_
        refine RunC.ret ?_
        refine Ends.then_ret ?_
        refine Ends.block_ret ?_
        refine Ends.then_ret ?_
        refine Ends.then_ret ?_
        refine Ends.block_ret ?_
        refine Ends.then_ret ?_
        refine Ends.leave (.inl rfl) (fun _ _ ok => results1 Tryd.results5 (Holds.tmp rfl) ok) (fun w2 hs => ?_)
        exact Ret.intro () trivial (congrArg Value.bool (okP_hi (i := i) (by omega)).symm) (HSub.nil _) hs
      · have h15 := of_decide_eq_false h15
        refine RunC.skip ?_
        refine Ends.then ?_
        refine RunC.region ?_
        refine RunL.still rfl rfl rfl (Still.move rfl rfl) ?_
        refine RunL.still rfl rfl rfl (Still.move rfl rfl) ?_
        refine RunL.still rfl rfl rfl (Still.shl rfl rfl rfl (by omega) (shl_bit (by omega))) ?_
        refine RunL.still rfl rfl rfl (Still.or rfl rfl rfl (rfl)) ?_
        refine RunL.still rfl rfl rfl (Still.assign rfl rfl) ?_
        refine RunL.nil ?_
        refine Ends.block ?_
        refine Ends.then ?_
        refine RunC.region ?_
        refine RunL.still rfl rfl rfl (Still.add rfl rfl rfl (fits64 (by omega) (by omega))) ?_
        refine RunL.still rfl rfl rfl (Still.move rfl rfl) ?_
        refine RunL.nil ?_
        refine Ends.again (i + 1) ?_ ?_ (Fr.Sub.app ?_ ?_) ?_
        · exact ⟨by omega, fun j h => by rcases Nat.lt_or_ge j i with h2 | h2; exact hB j h2; obtain rfl : j = i := (by omega); omega⟩
        · show _ < _; omega
        · exact Fr.Sub.cons rfl (Fr.Sub.cons rfl (Fr.Sub.nil _))
        · exact Fr.Sub.cons rfl (Fr.Sub.nil _)
        · exact HSub.pick 0 rfl (HSub.nil _)
  · have h8 := of_decide_eq_false h8
    obtain rfl : i = 4 := by omega
    refine RunC.exit ?_
    refine Ends.then_exit ?_
    refine Ends.then_exit ?_
    refine Ends.block_exit ?_
    refine Ends.then ?_
    refine RunC.seq ?_
    refine RunC.region ?_
    refine RunL.still rfl rfl rfl (Still.move rfl rfl) ?_
    refine RunL.still rfl rfl rfl (Still.eql rfl rfl rfl) ?_
    refine RunL.still rfl rfl rfl (Still.assign rfl rfl) ?_
    refine RunL.nil ?_
    refine Ends.then ?_
    refine RunC.ret ?_
    refine Ends.leave (.inl rfl) (fun _ _ ok => results1 Tryd.results5 (Holds.tmp rfl) ok) (fun w3 hs => ?_)
    exact Ret.intro () trivial (congrArg Value.bool (bitsTo_ok hB)) (HSub.nil _) hs

theorem rf_Valid (p : P4) (w : World) : Gives Tryd.prog 6 #[p4V p] w Nil (fun _ : Unit => True) (fun _ => .bool (okP p)) (fun _ => []) := by
  refine fn_of_run (S := Nil) (args := [p4V p]) (n := 30) (L := []) Tryd.func6 rfl Tryd.ntmps6 (Nat.le_of_ble_eq_true rfl) (Sym.nil _ _) ?_
  change RunC _ _ _ [(0, _)] _
  refine RunC.seq ?_
  refine RunC.region ?_
  refine RunL.grows rfl rfl rfl (Grows.box rfl rfl) (fun b1 _ => ?_)
  refine RunL.still rfl rfl rfl (Still.assign rfl rfl) ?_
  refine RunL.nil ?_
  refine Ends.then ?_
  refine RunC.seq ?_
  refine RunC.region ?_
  refine RunL.grows rfl rfl rfl (Grows.alloc rfl Tryd.zeroValue50) (fun b3 _ => ?_)
  refine RunL.nil ?_
  refine Ends.then ?_
  refine RunC.seq ?_
  refine RunC.seq ?_
  refine RunC.region ?_
  refine RunL.still rfl rfl rfl (Still.assign rfl rfl) ?_
  refine RunL.nil ?_
  refine Ends.then ?_
  refine RunC.block ?_
  refine RunC.loop2 (γ := Nat) (keep := [(1, _), (3, _)]) (hkeep := [_]) (fun i => i ≤ 4 ∧ ∀ j, j < i → (0 ≤ p.at j ∧ p.at j ≤ 3) ∧ mt p j (p.at j) = false) (fun i => 4 - i) (fun i => [(4, iv i)]) (fun i => [HL.obj b3 (.cells (metA p i) 50 (0, 0))]) 0 ⟨by omega, fun j h => absurd h (Nat.not_lt_zero j)⟩ (Fr.Sub.cons rfl (Fr.Sub.nil _)) (Fr.Sub.cons rfl (Fr.Sub.cons rfl (Fr.Sub.nil _))) (HSub.pick 0 rfl (HSub.pick 0 rfl (HSub.nil _))) ?_
  rintro i ⟨hi, hB⟩
  refine RunC.seq ?_
  refine RunC.seq ?_
  refine RunC.region ?_
  refine RunL.still rfl rfl rfl (Still.move rfl rfl) ?_
  refine RunL.still rfl rfl rfl (Still.lss rfl rfl rfl) ?_
  refine RunL.nil ?_
  refine Ends.then ?_
  refine RunC.cond rfl (fun h6 => ?_) (fun h6 => ?_)
  · have h6 := of_decide_eq_true h6
    have hi4 : i < 4 := by omega
    refine RunC.skip ?_
    refine Ends.then ?_
    refine RunC.seq ?_
    refine RunC.block ?_
    refine RunC.seq ?_
    refine RunC.seq ?_
    refine RunC.region ?_
    refine RunL.still rfl rfl rfl (Still.move rfl rfl) ?_
    refine RunL.still rfl rfl rfl (Still.indexArrNL rfl rfl rfl Tryd.underlying23 Tryd.sizeOf3 (by omega)) ?_
    refine RunL.still rfl rfl rfl (Still.load (v := iv (p.at i)) rfl rfl Tryd.isAgg3 (fun _ hs => cell_nth (hs.at (i := 1) rfl) (nth_p4 hi4))) ?_
    refine RunL.still rfl rfl rfl (Still.lss rfl rfl rfl) ?_
    refine RunL.still rfl rfl rfl (Still.move rfl rfl) ?_
    refine RunL.split (t := 13) rfl (fun h13 => ?_) (fun h13 => ?_)
    · have h13 := of_decide_eq_true h13
      refine RunL.off rfl rfl rfl ?_
      refine RunL.off rfl rfl rfl ?_
      refine RunL.off rfl rfl rfl ?_
      refine RunL.off rfl rfl rfl ?_
      refine RunL.still rfl rfl rfl (Still.pickT rfl rfl rfl) ?_
      refine RunL.still rfl rfl rfl (Still.move rfl rfl) ?_
      refine RunL.off rfl rfl rfl ?_
      refine RunL.off rfl rfl rfl ?_
      refine RunL.off rfl rfl rfl ?_
      refine RunL.off rfl rfl rfl ?_
      refine RunL.off rfl rfl rfl ?_
      refine RunL.still rfl rfl rfl (Still.pickT rfl rfl rfl) ?_
      refine RunL.nil ?_
      refine Ends.then ?_
      refine RunC.cond_true rfl ?_
      refine RunC.seq ?_
      refine RunC.region ?_
      refine RunL.still rfl rfl rfl (Still.assign rfl rfl) ?_
      refine RunL.nil ?_
      refine Ends.then ?_
      refine RunC.ret ?_
      refine Ends.then_ret ?_
      refine Ends.block_ret ?_
      refine Ends.then_ret ?_
      refine Ends.then_ret ?_
      refine Ends.block_ret ?_
      refine Ends.then_ret ?_
      refine Ends.leave (.inl rfl) (fun _ _ ok => results1 Tryd.results6 (Holds.tmp rfl) ok) (fun w1 hs => ?_)
      exact Ret.intro () trivial (congrArg Value.bool (okP_lo (i := i) (by omega)).symm) (HSub.nil _) hs
    · have h13 := of_decide_eq_false h13
      refine RunL.still rfl rfl rfl (Still.move rfl rfl) ?_
      refine RunL.still rfl rfl rfl (Still.indexArrNL rfl rfl rfl Tryd.underlying23 Tryd.sizeOf3 (by omega)) ?_
      refine RunL.still rfl rfl rfl (Still.load (v := iv (p.at i)) rfl rfl Tryd.isAgg3 (fun _ hs => cell_nth (hs.at (i := 1) rfl) (nth_p4 hi4))) ?_
      refine RunL.still rfl rfl rfl (Still.gtr rfl rfl rfl) ?_
      refine RunL.still rfl rfl rfl (Still.pickF rfl rfl rfl) ?_
      refine RunL.still rfl rfl rfl (Still.move rfl rfl) ?_
      refine RunL.split (t := 19) rfl (fun h19 => ?_) (fun h19 => ?_)
      · have h19 := of_decide_eq_true h19
        refine RunL.off rfl rfl rfl ?_
        refine RunL.off rfl rfl rfl ?_
        refine RunL.off rfl rfl rfl ?_
        refine RunL.off rfl rfl rfl ?_
        refine RunL.off rfl rfl rfl ?_
        refine RunL.still rfl rfl rfl (Still.pickT rfl rfl rfl) ?_
        refine RunL.nil ?_
        refine Ends.then ?_
        refine RunC.cond_true rfl ?_
        refine RunC.seq ?_
        refine RunC.region ?_
        refine RunL.still rfl rfl rfl (Still.assign rfl rfl) ?_
        refine RunL.nil ?_
        refine Ends.then ?_
        refine RunC.ret ?_
        refine Ends.then_ret ?_
        refine Ends.block_ret ?_
        refine Ends.then_ret ?_
        refine Ends.then_ret ?_
        refine Ends.block_ret ?_
        refine Ends.then_ret ?_
        refine Ends.leave (.inl rfl) (fun _ _ ok => results1 Tryd.results6 (Holds.tmp rfl) ok) (fun w2 hs => ?_)
        exact Ret.intro () trivial (congrArg Value.bool (okP_hi (i := i) (by omega)).symm) (HSub.nil _) hs
      · have h19 := of_decide_eq_false h19
        refine RunL.still rfl rfl rfl (Still.move rfl rfl) ?_
        refine RunL.still rfl rfl rfl (Still.indexArrNL rfl rfl rfl Tryd.underlying23 Tryd.sizeOf3 (by omega)) ?_
        refine RunL.still rfl rfl rfl (Still.load (v := iv (p.at i)) rfl rfl Tryd.isAgg3 (fun _ hs => cell_nth (hs.at (i := 1) rfl) (nth_p4 hi4))) ?_
        refine RunL.still rfl rfl rfl (Still.indexArrEL (p.at i).toNat rfl rfl rfl Tryd.underlying50 Tryd.sizeOf4 (by omega) (by omega)) ?_
        refine RunL.still rfl rfl rfl (Still.load (v := .bool (mt p i (p.at i))) rfl rfl Tryd.isAgg4 (fun _ hs => cell_nth (hs.at (i := 0) rfl) (nth_met (by omega)))) ?_
        refine RunL.still rfl rfl rfl (Still.pickF rfl rfl rfl) ?_
        refine RunL.nil ?_
        refine Ends.then ?_
        refine RunC.cond rfl (fun h25 => ?_) (fun h25 => ?_)
        · skip
          refine RunC.seq ?_
          refine RunC.region ?_
          refine RunL.still rfl rfl rfl (Still.assign rfl rfl) ?_
          refine RunL.nil ?_
          refine Ends.then ?_
          refine RunC.ret ?_
          refine Ends.then_ret ?_
          refine Ends.block_ret ?_
          refine Ends.then_ret ?_
          refine Ends.then_ret ?_
          refine Ends.block_ret ?_
          refine Ends.then_ret ?_
          refine Ends.leave (.inl rfl) (fun _ _ ok => results1 Tryd.results6 (Holds.tmp rfl) ok) (fun w3 hs => ?_)
          exact Ret.intro () trivial (congrArg Value.bool (okP_met hi4 h25).symm) (HSub.nil _) hs
        · skip
          refine RunC.skip ?_
          refine Ends.then ?_
          refine RunC.region ?_
          refine RunL.still rfl rfl rfl (Still.move rfl rfl) ?_
          refine RunL.still rfl rfl rfl (Still.indexArrNL rfl rfl rfl Tryd.underlying23 Tryd.sizeOf3 (by omega)) ?_
          refine RunL.still rfl rfl rfl (Still.load (v := iv (p.at i)) rfl rfl Tryd.isAgg3 (fun _ hs => cell_nth (hs.at (i := 1) rfl) (nth_p4 hi4))) ?_
          refine RunL.still rfl rfl rfl (Still.indexArrEL (p.at i).toNat rfl rfl rfl Tryd.underlying50 Tryd.sizeOf4 (by omega) (by omega)) ?_
          refine RunL.does0 rfl rfl (Does.store1 rfl rfl rfl (i := 0) rfl Tryd.sizeOf4 rfl (Nat.ble_eq_true_of_le (show 0 + (p.at i).toNat * 1 + 1 ≤ 4 by omega))) (fun _ _ => ?_)
          refine RunL.conv (fun _ hs => hs.re 0 rfl (show _ = HL.obj b3 (.cells (metA p (i + 1)) 50 (0, 0)) from congrArg (fun z => HL.obj b3 (.cells z 50 (0, 0))) (metA_set (by omega)))) ?_
          refine RunL.nil ?_
          refine Ends.block ?_
          refine Ends.then ?_
          refine RunC.region ?_
          refine RunL.still rfl rfl rfl (Still.move rfl rfl) ?_
          refine RunL.still rfl rfl rfl (Still.add rfl rfl rfl (fits64 (by omega) (by omega))) ?_
          refine RunL.still rfl rfl rfl (Still.assign rfl rfl) ?_
          refine RunL.nil ?_
          refine Ends.again (i + 1) ?_ ?_ (Fr.Sub.app ?_ ?_) ?_
          · exact ⟨by omega, fun j h => by rcases Nat.lt_or_ge j i with h2 | h2; exact hB j h2; obtain rfl : j = i := (by omega); exact ⟨by omega, h25⟩⟩
          · show _ < _; omega
          · exact Fr.Sub.cons rfl (Fr.Sub.nil _)
          · exact Fr.Sub.cons rfl (Fr.Sub.cons rfl (Fr.Sub.nil _))
          · exact HSub.pick 0 rfl (HSub.pick 0 rfl (HSub.nil _))
  · have h6 := of_decide_eq_false h6
    obtain rfl : i = 4 := by omega
    refine RunC.exit ?_
    refine Ends.then_exit ?_
    refine Ends.then_exit ?_
    refine Ends.block_exit ?_
    refine Ends.then ?_
    refine RunC.seq ?_
    refine RunC.region ?_
    refine RunL.still rfl rfl rfl (Still.assign rfl rfl) ?_
    refine RunL.nil ?_
    refine Ends.then ?_
    refine RunC.ret ?_
    refine Ends.leave (.inl rfl) (fun _ _ ok => results1 Tryd.results6 (Holds.tmp rfl) ok) (fun w4 hs => ?_)
    exact Ret.intro () trivial (congrArg Value.bool (okP_true hB).symm) (HSub.nil _) hs

theorem gl_compose (p q : P4) (w : World) (hq : okP q = true) : Gives Tryd.prog 23 #[p4V p, p4V q] w Nil (fun _ : Unit => True) (fun _ => p4V (compP p q)) (fun _ => []) := by
  have q0 := okP_at hq 0; have q1 := okP_at hq 1; have q2 := okP_at hq 2; have q3 := okP_at hq 3
  simp only [P4.at] at q0 q1 q2 q3
  refine fn_of_run (S := Nil) (args := [p4V p, p4V q]) (n := 22) (L := []) Tryd.func23 rfl Tryd.ntmps23 (Nat.le_of_ble_eq_true rfl) (Sym.nil _ _) ?_
  change RunC _ _ _ [(0, _), (1, _)] _
  refine RunC.seq ?_
  refine RunC.region ?_
  refine RunL.grows rfl rfl rfl (Grows.box rfl rfl) (fun b2 _ => ?_)
  refine RunL.grows rfl rfl rfl (Grows.box rfl rfl) (fun b3 _ => ?_)
  refine RunL.grows rfl rfl rfl (Grows.alloc rfl Tryd.zeroValue23) (fun b4 _ => ?_)
  refine RunL.nil ?_
  refine Ends.then ?_
  refine RunC.seq ?_
  refine RunC.draw 17 (.still 0 (.still 1 (.still 2 (.still 3 (.still 4 (.still 5 (.still 6 (.still 7 (.still 8 (.still 9 (.still 10 (.still 11 (.still 12 (.still 13 (.still 14 (.still 15 (.still 16 .done))))))))))))))))) (by kernel_rfl) (by kernel_rfl) ?_
  refine RunG.still rfl rfl rfl rfl (Still.indexArrNL rfl rfl rfl Tryd.underlying23 Tryd.sizeOf3 (by decide)) ?_
  refine RunG.still rfl rfl rfl rfl (Still.load rfl rfl Tryd.isAgg3 (fun _ hs => cell_nth (hs.at (i := 1) rfl) rfl)) ?_
  refine RunG.still rfl rfl rfl rfl (Still.indexArrEL q.a0.toNat rfl rfl rfl Tryd.underlying23 Tryd.sizeOf3 (by omega) (by omega)) ?_
  refine RunG.still rfl rfl rfl rfl (Still.load (v := iv (p.at q.a0.toNat)) rfl rfl Tryd.isAgg3 (fun _ hs => cell_nth (hs.at (i := 2) rfl) (nth_p4 (by omega)))) ?_
  refine RunG.still rfl rfl rfl rfl (Still.indexArrNL rfl rfl rfl Tryd.underlying23 Tryd.sizeOf3 (by decide)) ?_
  refine RunG.still rfl rfl rfl rfl (Still.load rfl rfl Tryd.isAgg3 (fun _ hs => cell_nth (hs.at (i := 1) rfl) rfl)) ?_
  refine RunG.still rfl rfl rfl rfl (Still.indexArrEL q.a1.toNat rfl rfl rfl Tryd.underlying23 Tryd.sizeOf3 (by omega) (by omega)) ?_
  refine RunG.still rfl rfl rfl rfl (Still.load (v := iv (p.at q.a1.toNat)) rfl rfl Tryd.isAgg3 (fun _ hs => cell_nth (hs.at (i := 2) rfl) (nth_p4 (by omega)))) ?_
  refine RunG.still rfl rfl rfl rfl (Still.indexArrNL rfl rfl rfl Tryd.underlying23 Tryd.sizeOf3 (by decide)) ?_
  refine RunG.still rfl rfl rfl rfl (Still.load rfl rfl Tryd.isAgg3 (fun _ hs => cell_nth (hs.at (i := 1) rfl) rfl)) ?_
  refine RunG.still rfl rfl rfl rfl (Still.indexArrEL q.a2.toNat rfl rfl rfl Tryd.underlying23 Tryd.sizeOf3 (by omega) (by omega)) ?_
  refine RunG.still rfl rfl rfl rfl (Still.load (v := iv (p.at q.a2.toNat)) rfl rfl Tryd.isAgg3 (fun _ hs => cell_nth (hs.at (i := 2) rfl) (nth_p4 (by omega)))) ?_
  refine RunG.still rfl rfl rfl rfl (Still.indexArrNL rfl rfl rfl Tryd.underlying23 Tryd.sizeOf3 (by decide)) ?_
  refine RunG.still rfl rfl rfl rfl (Still.load rfl rfl Tryd.isAgg3 (fun _ hs => cell_nth (hs.at (i := 1) rfl) rfl)) ?_
  refine RunG.still rfl rfl rfl rfl (Still.indexArrEL q.a3.toNat rfl rfl rfl Tryd.underlying23 Tryd.sizeOf3 (by omega) (by omega)) ?_
  refine RunG.still rfl rfl rfl rfl (Still.load (v := iv (p.at q.a3.toNat)) rfl rfl Tryd.isAgg3 (fun _ hs => cell_nth (hs.at (i := 2) rfl) (nth_p4 (by omega)))) ?_
  refine RunG.still rfl rfl rfl rfl (Still.build_1_1_1_1 (fun x0_0 x1_0 x2_0 x3_0 => .agg #[x0_0, x1_0, x2_0, x3_0]) rfl rfl rfl rfl rfl (fun _ => by kernel_rfl)) ?_
  refine RunG.done ?_
  show RunL _ _ _ [_] _ _
  refine RunL.does0 rfl rfl (Does.store rfl rfl rfl (i := 0) rfl Tryd.sizeOf23 rfl (rfl) rfl) (fun _ _ => ?_)
  refine RunL.nil ?_
  refine Ends.then ?_
  refine RunC.ret ?_
  refine Ends.leave (.inl rfl) (fun _ _ ok => results1 Tryd.results23 (Holds.cell rfl (fun _ hs => load_cells (vs := [_, _, _, _]) Tryd.isAgg23 Tryd.sizeOf23 rfl (cells_nth (hs.at (i := 0) rfl) ⟨rfl, ⟨rfl, ⟨rfl, ⟨rfl, trivial⟩⟩⟩⟩))) ok) (fun w1 hs => ?_)
  exact Ret.intro () trivial rfl (HSub.nil _) hs

theorem gl_Compose (p q : P4) (w : World) : Gives Tryd.prog 7 #[p4V p, p4V q] w Nil (fun _ : Unit => True) (fun _ => p4V (compR p q)) (fun _ => []) := by
  refine fn_of_run (S := Nil) (args := [p4V p, p4V q]) (n := 17) (L := []) Tryd.func7 rfl Tryd.ntmps7 (Nat.le_of_ble_eq_true rfl) (Sym.nil _ _) ?_
  change RunC _ _ _ [(0, _), (1, _)] _
  refine RunC.seq ?_
  refine RunC.region ?_
  refine RunL.grows rfl rfl rfl (Grows.box rfl rfl) (fun b2 _ => ?_)
  refine RunL.grows rfl rfl rfl (Grows.box rfl rfl) (fun b3 _ => ?_)
  refine RunL.grows rfl rfl rfl (Grows.alloc rfl Tryd.zeroValue23) (fun b4 _ => ?_)
  refine RunL.nil ?_
  refine Ends.then ?_
  refine RunC.seq ?_
  refine RunC.seq ?_
  refine RunC.region ?_
  refine RunL.still rfl rfl rfl (Still.loads rfl rfl Tryd.isAgg23 Tryd.sizeOf23 (vs := [_, _, _, _]) rfl (fun _ hs => cells_nth (hs.at (i := 2) rfl) ⟨rfl, ⟨rfl, ⟨rfl, ⟨rfl, trivial⟩⟩⟩⟩)) ?_
  refine RunL.grows rfl rfl rfl (Grows.call (vs := #[_]) rfl rfl Tryd.call5 (fun w hs => gl_Valid p w)) (fun _ _ => ?_)
  refine RunL.still rfl rfl rfl (Still.not rfl rfl) ?_
  refine RunL.still rfl rfl rfl (Still.move rfl rfl) ?_
  refine RunL.split (t := 8) rfl (fun h8 => ?_) (fun h8 => ?_)
  · have h8p : okP p = false := by simpa using h8
    refine RunL.off rfl rfl rfl ?_
    refine RunL.off rfl rfl rfl ?_
    refine RunL.off rfl rfl rfl ?_
    refine RunL.still rfl rfl rfl (Still.pickT rfl rfl rfl) ?_
    refine RunL.nil ?_
    refine Ends.then ?_
    refine RunC.cond_true rfl ?_
    refine RunC.seq ?_
    refine RunC.region ?_
    refine RunL.still rfl rfl rfl (Still.build_0 (.agg #[.int .i64 0, .int .i64 0, .int .i64 0, .int .i64 0]) rfl (fun _ => by kernel_rfl)) ?_
    refine RunL.does0 rfl rfl (Does.store rfl rfl rfl (i := 0) rfl Tryd.sizeOf23 rfl (rfl) rfl) (fun _ _ => ?_)
    refine RunL.nil ?_
    refine Ends.then ?_
    refine RunC.ret ?_
    refine Ends.then_ret ?_
    refine Ends.leave (.inl rfl) (fun _ _ ok => results1 Tryd.results7 (Holds.cell rfl (fun _ hs => load_cells (vs := [_, _, _, _]) Tryd.isAgg23 Tryd.sizeOf23 rfl (cells_nth (hs.at (i := 0) rfl) ⟨rfl, ⟨rfl, ⟨rfl, ⟨rfl, trivial⟩⟩⟩⟩))) ok) (fun w1 hs => ?_)
    exact Ret.intro () trivial (by rw [compR, if_neg (by simp [h8p])]; rfl) (HSub.nil _) hs
  · have h8p : okP p = true := by simpa using h8
    refine RunL.still rfl rfl rfl (Still.loads rfl rfl Tryd.isAgg23 Tryd.sizeOf23 (vs := [_, _, _, _]) rfl (fun _ hs => cells_nth (hs.at (i := 1) rfl) ⟨rfl, ⟨rfl, ⟨rfl, ⟨rfl, trivial⟩⟩⟩⟩)) ?_
    refine RunL.grows rfl rfl rfl (Grows.call (vs := #[_]) rfl rfl Tryd.call5 (fun w hs => gl_Valid q w)) (fun _ _ => ?_)
    refine RunL.still rfl rfl rfl (Still.not rfl rfl) ?_
    refine RunL.still rfl rfl rfl (Still.pickF rfl rfl rfl) ?_
    refine RunL.nil ?_
    refine Ends.then ?_
    refine RunC.cond rfl (fun h12 => ?_) (fun h12 => ?_)
    · have h12q : okP q = false := by simpa using h12
      refine RunC.seq ?_
      refine RunC.region ?_
      refine RunL.still rfl rfl rfl (Still.build_0 (.agg #[.int .i64 0, .int .i64 0, .int .i64 0, .int .i64 0]) rfl (fun _ => by kernel_rfl)) ?_
      refine RunL.does0 rfl rfl (Does.store rfl rfl rfl (i := 0) rfl Tryd.sizeOf23 rfl (rfl) rfl) (fun _ _ => ?_)
      refine RunL.nil ?_
      refine Ends.then ?_
      refine RunC.ret ?_
      refine Ends.then_ret ?_
      refine Ends.leave (.inl rfl) (fun _ _ ok => results1 Tryd.results7 (Holds.cell rfl (fun _ hs => load_cells (vs := [_, _, _, _]) Tryd.isAgg23 Tryd.sizeOf23 rfl (cells_nth (hs.at (i := 0) rfl) ⟨rfl, ⟨rfl, ⟨rfl, ⟨rfl, trivial⟩⟩⟩⟩))) ok) (fun w2 hs => ?_)
      exact Ret.intro () trivial (by rw [compR, if_neg (by simp [h12q])]; rfl) (HSub.nil _) hs
    · have h12q : okP q = true := by simpa using h12
      refine RunC.skip ?_
      refine Ends.then ?_
      refine RunC.seq ?_
      refine RunC.region ?_
      refine RunL.still rfl rfl rfl (Still.loads rfl rfl Tryd.isAgg23 Tryd.sizeOf23 (vs := [_, _, _, _]) rfl (fun _ hs => cells_nth (hs.at (i := 2) rfl) ⟨rfl, ⟨rfl, ⟨rfl, ⟨rfl, trivial⟩⟩⟩⟩)) ?_
      refine RunL.still rfl rfl rfl (Still.loads rfl rfl Tryd.isAgg23 Tryd.sizeOf23 (vs := [_, _, _, _]) rfl (fun _ hs => cells_nth (hs.at (i := 1) rfl) ⟨rfl, ⟨rfl, ⟨rfl, ⟨rfl, trivial⟩⟩⟩⟩)) ?_
      refine RunL.grows rfl rfl rfl (Grows.call (vs := #[_, _]) rfl rfl Tryd.call23 (fun w hs => gl_compose p q w h12q)) (fun _ _ => ?_)
      refine RunL.does0 rfl rfl (Does.store rfl rfl rfl (i := 0) rfl Tryd.sizeOf23 rfl (rfl) rfl) (fun _ _ => ?_)
      refine RunL.nil ?_
      refine Ends.then ?_
      refine RunC.ret ?_
      refine Ends.leave (.inl rfl) (fun _ _ ok => results1 Tryd.results7 (Holds.cell rfl (fun _ hs => load_cells (vs := [_, _, _, _]) Tryd.isAgg23 Tryd.sizeOf23 rfl (cells_nth (hs.at (i := 0) rfl) ⟨rfl, ⟨rfl, ⟨rfl, ⟨rfl, trivial⟩⟩⟩⟩))) ok) (fun w3 hs => ?_)
      exact Ret.intro () trivial (by rw [compR, if_pos ⟨h8p, h12q⟩]) (HSub.nil _) hs

theorem rf_Compose (p q : P4) (w : World) : Gives Tryd.prog 8 #[p4V p, p4V q] w Nil (fun _ : Unit => True) (fun _ => p4V (compR p q)) (fun _ => []) := by
  refine fn_of_run (S := Nil) (args := [p4V p, p4V q]) (n := 28) (L := []) Tryd.func8 rfl Tryd.ntmps8 (Nat.le_of_ble_eq_true rfl) (Sym.nil _ _) ?_
  change RunC _ _ _ [(0, _), (1, _)] _
  refine RunC.seq ?_
  refine RunC.region ?_
  refine RunL.grows rfl rfl rfl (Grows.box rfl rfl) (fun b2 _ => ?_)
  refine RunL.grows rfl rfl rfl (Grows.box rfl rfl) (fun b3 _ => ?_)
  refine RunL.grows rfl rfl rfl (Grows.alloc rfl Tryd.zeroValue23) (fun b4 _ => ?_)
  refine RunL.nil ?_
  refine Ends.then ?_
  refine RunC.seq ?_
  refine RunC.region ?_
  refine RunL.grows rfl rfl rfl (Grows.alloc rfl Tryd.zeroValue23) (fun b5 _ => ?_)
  refine RunL.nil ?_
  refine Ends.then ?_
  refine RunC.seq ?_
  refine RunC.seq ?_
  refine RunC.region ?_
  refine RunL.still rfl rfl rfl (Still.loads rfl rfl Tryd.isAgg23 Tryd.sizeOf23 (vs := [_, _, _, _]) rfl (fun _ hs => cells_nth (hs.at (i := 3) rfl) ⟨rfl, ⟨rfl, ⟨rfl, ⟨rfl, trivial⟩⟩⟩⟩)) ?_
  refine RunL.grows rfl rfl rfl (Grows.call (vs := #[_]) rfl rfl Tryd.call6 (fun w hs => rf_Valid p w)) (fun _ _ => ?_)
  refine RunL.still rfl rfl rfl (Still.not rfl rfl) ?_
  refine RunL.still rfl rfl rfl (Still.move rfl rfl) ?_
  refine RunL.split (t := 10) rfl (fun h10 => ?_) (fun h10 => ?_)
  · have h10p : okP p = false := by simpa using h10
    refine RunL.off rfl rfl rfl ?_
    refine RunL.off rfl rfl rfl ?_
    refine RunL.off rfl rfl rfl ?_
    refine RunL.still rfl rfl rfl (Still.pickT rfl rfl rfl) ?_
    refine RunL.nil ?_
    refine Ends.then ?_
    refine RunC.cond_true rfl ?_
    refine RunC.seq ?_
    refine RunC.region ?_
    refine RunL.still rfl rfl rfl (Still.loads rfl rfl Tryd.isAgg23 Tryd.sizeOf23 (vs := [_, _, _, _]) rfl (fun _ hs => cells_nth (hs.at (i := 0) rfl) ⟨rfl, ⟨rfl, ⟨rfl, ⟨rfl, trivial⟩⟩⟩⟩)) ?_
    refine RunL.does0 rfl rfl (Does.store rfl rfl rfl (i := 1) rfl Tryd.sizeOf23 rfl (rfl) rfl) (fun _ _ => ?_)
    refine RunL.nil ?_
    refine Ends.then ?_
    refine RunC.ret ?_
    refine Ends.then_ret ?_
    refine Ends.leave (.inl rfl) (fun _ _ ok => results1 Tryd.results8 (Holds.cell rfl (fun _ hs => load_cells (vs := [_, _, _, _]) Tryd.isAgg23 Tryd.sizeOf23 rfl (cells_nth (hs.at (i := 1) rfl) ⟨rfl, ⟨rfl, ⟨rfl, ⟨rfl, trivial⟩⟩⟩⟩))) ok) (fun w1 hs => ?_)
    exact Ret.intro () trivial (by rw [compR, if_neg (by simp [h10p])]; rfl) (HSub.nil _) hs
  · have h10p : okP p = true := by simpa using h10
    refine RunL.still rfl rfl rfl (Still.loads rfl rfl Tryd.isAgg23 Tryd.sizeOf23 (vs := [_, _, _, _]) rfl (fun _ hs => cells_nth (hs.at (i := 2) rfl) ⟨rfl, ⟨rfl, ⟨rfl, ⟨rfl, trivial⟩⟩⟩⟩)) ?_
    refine RunL.grows rfl rfl rfl (Grows.call (vs := #[_]) rfl rfl Tryd.call6 (fun w hs => rf_Valid q w)) (fun _ _ => ?_)
    refine RunL.still rfl rfl rfl (Still.not rfl rfl) ?_
    refine RunL.still rfl rfl rfl (Still.pickF rfl rfl rfl) ?_
    refine RunL.nil ?_
    refine Ends.then ?_
    refine RunC.cond rfl (fun h14 => ?_) (fun h14 => ?_)
    · have h14q : okP q = false := by simpa using h14
      refine RunC.seq ?_
      refine RunC.region ?_
      refine RunL.still rfl rfl rfl (Still.loads rfl rfl Tryd.isAgg23 Tryd.sizeOf23 (vs := [_, _, _, _]) rfl (fun _ hs => cells_nth (hs.at (i := 0) rfl) ⟨rfl, ⟨rfl, ⟨rfl, ⟨rfl, trivial⟩⟩⟩⟩)) ?_
      refine RunL.does0 rfl rfl (Does.store rfl rfl rfl (i := 1) rfl Tryd.sizeOf23 rfl (rfl) rfl) (fun _ _ => ?_)
      refine RunL.nil ?_
      refine Ends.then ?_
      refine RunC.ret ?_
      refine Ends.then_ret ?_
      refine Ends.leave (.inl rfl) (fun _ _ ok => results1 Tryd.results8 (Holds.cell rfl (fun _ hs => load_cells (vs := [_, _, _, _]) Tryd.isAgg23 Tryd.sizeOf23 rfl (cells_nth (hs.at (i := 1) rfl) ⟨rfl, ⟨rfl, ⟨rfl, ⟨rfl, trivial⟩⟩⟩⟩))) ok) (fun w2 hs => ?_)
      exact Ret.intro () trivial (by rw [compR, if_neg (by simp [h14q])]; rfl) (HSub.nil _) hs
    · have h14q : okP q = true := by simpa using h14
      refine RunC.skip ?_
      refine Ends.then ?_
      refine RunC.seq ?_
      refine RunC.seq ?_
      refine RunC.region ?_
      refine RunL.still rfl rfl rfl (Still.assign rfl rfl) ?_
      refine RunL.nil ?_
      refine Ends.then ?_
      refine RunC.block ?_
      refine RunC.loop2 (γ := Nat) (keep := [(2, _), (3, _), (4, _), (5, _)]) (hkeep := [_, _, _]) (fun i => i ≤ 4) (fun i => 4 - i) (fun i => [(6, iv i)]) (fun i => [HL.obj b5 (.cells (cTo (compP p q) i) 23 (0, 0))]) 0 (by omega) (Fr.Sub.cons rfl (Fr.Sub.nil _)) (Fr.Sub.cons rfl (Fr.Sub.cons rfl (Fr.Sub.cons rfl (Fr.Sub.cons rfl (Fr.Sub.nil _))))) (HSub.pick 0 rfl (HSub.pick 0 rfl (HSub.pick 0 rfl (HSub.pick 0 rfl (HSub.nil _))))) ?_
      rintro i hi
      refine RunC.seq ?_
      refine RunC.seq ?_
      refine RunC.region ?_
      refine RunL.still rfl rfl rfl (Still.move rfl rfl) ?_
      refine RunL.still rfl rfl rfl (Still.lss rfl rfl rfl) ?_
      refine RunL.nil ?_
      refine Ends.then ?_
      refine RunC.cond rfl (fun h17 => ?_) (fun h17 => ?_)
      · have h17 := of_decide_eq_true h17
        have hi4 : i < 4 := by omega
        have hqi := okP_at h14q i
        refine RunC.skip ?_
        refine Ends.then ?_
        refine RunC.seq ?_
        refine RunC.block ?_
        refine RunC.region ?_
        refine RunL.still rfl rfl rfl (Still.move rfl rfl) ?_
        refine RunL.still rfl rfl rfl (Still.move rfl rfl) ?_
        refine RunL.still rfl rfl rfl (Still.indexArrNL rfl rfl rfl Tryd.underlying23 Tryd.sizeOf3 (by omega)) ?_
        refine RunL.still rfl rfl rfl (Still.load (v := iv (q.at i)) rfl rfl Tryd.isAgg3 (fun _ hs => cell_nth (hs.at (i := 2) rfl) (nth_p4 hi4))) ?_
        refine RunL.still rfl rfl rfl (Still.indexArrEL (q.at i).toNat rfl rfl rfl Tryd.underlying23 Tryd.sizeOf3 (by omega) (by omega)) ?_
        refine RunL.still rfl rfl rfl (Still.load (v := iv (p.at (q.at i).toNat)) rfl rfl Tryd.isAgg3 (fun _ hs => cell_nth (hs.at (i := 3) rfl) (nth_p4 (by omega)))) ?_
        refine RunL.still rfl rfl rfl (Still.indexArrNL rfl rfl rfl Tryd.underlying23 Tryd.sizeOf3 (by omega)) ?_
        refine RunL.does0 rfl rfl (Does.store1 rfl rfl rfl (i := 0) rfl Tryd.sizeOf3 rfl (Nat.ble_eq_true_of_le (show 0 + i * 1 + 1 ≤ 4 by omega))) (fun _ _ => ?_)
        refine RunL.conv (fun _ hs => hs.re 0 rfl (show _ = HL.obj b5 (.cells (cTo (compP p q) (i + 1)) 23 (0, 0)) from congrArg (fun z => HL.obj b5 (.cells z 23 (0, 0))) (cTo_set hi4 (comp_at p q hi4)))) ?_
        refine RunL.nil ?_
        refine Ends.block ?_
        refine Ends.then ?_
        refine RunC.region ?_
        refine RunL.still rfl rfl rfl (Still.move rfl rfl) ?_
        refine RunL.still rfl rfl rfl (Still.add rfl rfl rfl (fits64 (by omega) (by omega))) ?_
        refine RunL.still rfl rfl rfl (Still.assign rfl rfl) ?_
        refine RunL.nil ?_
        refine Ends.again (i + 1) ?_ ?_ (Fr.Sub.app ?_ ?_) ?_
        · show _; omega
        · show _ < _; omega
        · exact Fr.Sub.cons rfl (Fr.Sub.nil _)
        · exact Fr.Sub.cons rfl (Fr.Sub.cons rfl (Fr.Sub.cons rfl (Fr.Sub.cons rfl (Fr.Sub.nil _))))
        · exact HSub.pick 0 rfl (HSub.pick 0 rfl (HSub.pick 0 rfl (HSub.pick 0 rfl (HSub.nil _))))
      · have h17 := of_decide_eq_false h17
        obtain rfl : i = 4 := by omega
        refine RunC.exit ?_
        refine Ends.then_exit ?_
        refine Ends.then_exit ?_
        refine Ends.block_exit ?_
        refine Ends.then ?_
        refine RunC.seq ?_
        refine RunC.region ?_
        refine RunL.still rfl rfl rfl (Still.loads rfl rfl Tryd.isAgg23 Tryd.sizeOf23 (vs := [_, _, _, _]) rfl (fun _ hs => cells_nth (hs.at (i := 0) rfl) ⟨rfl, ⟨rfl, ⟨rfl, ⟨rfl, trivial⟩⟩⟩⟩)) ?_
        refine RunL.does0 rfl rfl (Does.store rfl rfl rfl (i := 1) rfl Tryd.sizeOf23 rfl (rfl) rfl) (fun _ _ => ?_)
        refine RunL.nil ?_
        refine Ends.then ?_
        refine RunC.ret ?_
        refine Ends.leave (.inl rfl) (fun _ _ ok => results1 Tryd.results8 (Holds.cell rfl (fun _ hs => load_cells (vs := [_, _, _, _]) Tryd.isAgg23 Tryd.sizeOf23 rfl (cells_nth (hs.at (i := 1) rfl) ⟨rfl, ⟨rfl, ⟨rfl, ⟨rfl, trivial⟩⟩⟩⟩))) ok) (fun w3 hs => ?_)
        exact Ret.intro () trivial (by rw [show compR p q = compP p q from if_pos ⟨h10p, h14q⟩]; rfl) (HSub.nil _) hs

theorem gl_inverse (p : P4) (w : World) (hp : okP p = true) : Gives Tryd.prog 24 #[p4V p] w Nil (fun _ : Unit => True) (fun _ => p4V (invP p)) (fun _ => []) := by
  refine fn_of_run (S := Nil) (args := [p4V p]) (n := 16) (L := []) Tryd.func24 rfl Tryd.ntmps24 (Nat.le_of_ble_eq_true rfl) (Sym.nil _ _) ?_
  change RunC _ _ _ [(0, _)] _
  refine RunC.seq ?_
  refine RunC.region ?_
  refine RunL.grows rfl rfl rfl (Grows.box rfl rfl) (fun b1 _ => ?_)
  refine RunL.grows rfl rfl rfl (Grows.alloc rfl Tryd.zeroValue23) (fun b2 _ => ?_)
  refine RunL.nil ?_
  refine Ends.then ?_
  refine RunC.seq ?_
  refine RunC.region ?_
  refine RunL.grows rfl rfl rfl (Grows.alloc rfl Tryd.zeroValue23) (fun b3 _ => ?_)
  refine RunL.nil ?_
  refine Ends.then ?_
  refine RunC.seq ?_
  refine RunC.seq ?_
  refine RunC.region ?_
  refine RunL.still rfl rfl rfl (Still.loads rfl rfl Tryd.isAgg23 Tryd.sizeOf23 (vs := [_, _, _, _]) rfl (fun _ hs => cells_nth (hs.at (i := 2) rfl) ⟨rfl, ⟨rfl, ⟨rfl, ⟨rfl, trivial⟩⟩⟩⟩)) ?_
  refine RunL.still rfl rfl rfl (Still.move rfl rfl) ?_
  refine RunL.nil ?_
  refine Ends.then ?_
  refine RunC.block ?_
  refine RunC.loop2 (γ := Nat) (keep := [(2, _), (3, _), (6, _)]) (hkeep := [_, _]) (fun i => i ≤ 4) (fun i => 4 - i) (fun i => [(7, iv i)]) (fun i => [HL.obj b3 (.cells (invA p i) 23 (0, 0))]) 0 (by omega) (Fr.Sub.cons rfl (Fr.Sub.nil _)) (Fr.Sub.cons rfl (Fr.Sub.cons rfl (Fr.Sub.cons rfl (Fr.Sub.nil _)))) (HSub.pick 0 rfl (HSub.pick 0 rfl (HSub.pick 0 rfl (HSub.nil _)))) ?_
  rintro i hi
  refine RunC.seq ?_
  refine RunC.region ?_
  refine RunL.still rfl rfl rfl (Still.lss rfl rfl rfl) ?_
  refine RunL.nil ?_
  refine Ends.then ?_
  refine RunC.seq ?_
  refine RunC.cond rfl (fun h8 => ?_) (fun h8 => ?_)
  · have h8 := of_decide_eq_true h8
    have hi4 : i < 4 := by omega
    have hpi := okP_at hp i
    refine RunC.skip ?_
    refine Ends.then ?_
    refine RunC.seq ?_
    refine RunC.block ?_
    refine RunC.seq ?_
    refine RunC.region ?_
    refine RunL.still rfl rfl rfl (Still.move rfl rfl) ?_
    refine RunL.still rfl rfl rfl (Still.index rfl rfl rfl Tryd.underlying23 Tryd.sizeOf3 Tryd.isAgg3 ⟨by omega, by omega⟩ (p4_indexN hi4)) ?_
    refine RunL.still rfl rfl rfl (Still.assign rfl rfl) ?_
    refine RunL.still rfl rfl rfl (Still.assign rfl rfl) ?_
    refine RunL.nil ?_
    refine Ends.then ?_
    refine RunC.region ?_
    refine RunL.still rfl rfl rfl (Still.move rfl rfl) ?_
    refine RunL.still rfl rfl rfl (Still.move rfl rfl) ?_
    refine RunL.still rfl rfl rfl (Still.indexArrEL (p.at i).toNat rfl rfl rfl Tryd.underlying23 Tryd.sizeOf3 (by omega) (by omega)) ?_
    refine RunL.does0 rfl rfl (Does.store1 rfl rfl rfl (i := 0) rfl Tryd.sizeOf3 rfl (Nat.ble_eq_true_of_le (show 0 + (p.at i).toNat * 1 + 1 ≤ 4 by omega))) (fun _ _ => ?_)
    refine RunL.conv (fun _ hs => hs.re 0 rfl (show _ = HL.obj b3 (.cells (invA p (i + 1)) 23 (0, 0)) from congrArg (fun z => HL.obj b3 (.cells z 23 (0, 0))) (invA_set (by omega)))) ?_
    refine RunL.nil ?_
    refine Ends.block ?_
    refine Ends.then ?_
    refine RunC.region ?_
    refine RunL.still rfl rfl rfl (Still.add rfl rfl rfl (fits64 (by omega) (by omega))) ?_
    refine RunL.still rfl rfl rfl (Still.move rfl rfl) ?_
    refine RunL.nil ?_
    refine Ends.again (i + 1) ?_ ?_ (Fr.Sub.app ?_ ?_) ?_
    · show _; omega
    · show _ < _; omega
    · exact Fr.Sub.cons rfl (Fr.Sub.nil _)
    · exact Fr.Sub.cons rfl (Fr.Sub.cons rfl (Fr.Sub.cons rfl (Fr.Sub.nil _)))
    · exact HSub.pick 0 rfl (HSub.pick 0 rfl (HSub.pick 0 rfl (HSub.nil _)))
  · have h8 := of_decide_eq_false h8
    obtain rfl : i = 4 := by omega
    refine RunC.exit ?_
    refine Ends.then_exit ?_
    refine Ends.then_exit ?_
    refine Ends.block_exit ?_
    refine Ends.then ?_
    refine RunC.seq ?_
    refine RunC.conv (fun _ hs => hs.re 0 rfl (show _ = HL.obj b3 (.cells #[iv (invP p).a0, iv (invP p).a1, iv (invP p).a2, iv (invP p).a3] 23 (0, 0)) by rw [invA_four])) ?_
    refine RunC.region ?_
    refine RunL.still rfl rfl rfl (Still.loads rfl rfl Tryd.isAgg23 Tryd.sizeOf23 (vs := [_, _, _, _]) rfl (fun _ hs => cells_nth (hs.at (i := 0) rfl) ⟨rfl, ⟨rfl, ⟨rfl, ⟨rfl, trivial⟩⟩⟩⟩)) ?_
    refine RunL.does0 rfl rfl (Does.store rfl rfl rfl (i := 1) rfl Tryd.sizeOf23 rfl (rfl) rfl) (fun _ _ => ?_)
    refine RunL.nil ?_
    refine Ends.then ?_
    refine RunC.ret ?_
    refine Ends.leave (.inl rfl) (fun _ _ ok => results1 Tryd.results24 (Holds.cell rfl (fun _ hs => load_cells (vs := [_, _, _, _]) Tryd.isAgg23 Tryd.sizeOf23 rfl (cells_nth (hs.at (i := 1) rfl) ⟨rfl, ⟨rfl, ⟨rfl, ⟨rfl, trivial⟩⟩⟩⟩))) ok) (fun w1 hs => ?_)
    exact Ret.intro () trivial rfl (HSub.nil _) hs

theorem rf_Inverse (p : P4) (w : World) : Gives Tryd.prog 10 #[p4V p] w Nil (fun _ : Unit => True) (fun _ => p4V (invR p)) (fun _ => []) := by
  refine fn_of_run (S := Nil) (args := [p4V p]) (n := 19) (L := []) Tryd.func10 rfl Tryd.ntmps10 (Nat.le_of_ble_eq_true rfl) (Sym.nil _ _) ?_
  change RunC _ _ _ [(0, _)] _
  refine RunC.seq ?_
  refine RunC.region ?_
  refine RunL.grows rfl rfl rfl (Grows.box rfl rfl) (fun b1 _ => ?_)
  refine RunL.grows rfl rfl rfl (Grows.alloc rfl Tryd.zeroValue23) (fun b2 _ => ?_)
  refine RunL.nil ?_
  refine Ends.then ?_
  refine RunC.seq ?_
  refine RunC.region ?_
  refine RunL.grows rfl rfl rfl (Grows.alloc rfl Tryd.zeroValue23) (fun b3 _ => ?_)
  refine RunL.nil ?_
  refine Ends.then ?_
  refine RunC.seq ?_
  refine RunC.seq ?_
  refine RunC.region ?_
  refine RunL.still rfl rfl rfl (Still.loads rfl rfl Tryd.isAgg23 Tryd.sizeOf23 (vs := [_, _, _, _]) rfl (fun _ hs => cells_nth (hs.at (i := 2) rfl) ⟨rfl, ⟨rfl, ⟨rfl, ⟨rfl, trivial⟩⟩⟩⟩)) ?_
  refine RunL.grows rfl rfl rfl (Grows.call (vs := #[_]) rfl rfl Tryd.call6 (fun w hs => rf_Valid p w)) (fun _ _ => ?_)
  refine RunL.still rfl rfl rfl (Still.not rfl rfl) ?_
  refine RunL.nil ?_
  refine Ends.then ?_
  refine RunC.cond rfl (fun h7 => ?_) (fun h7 => ?_)
  · have hp : okP p = false := by simpa using h7
    refine RunC.seq ?_
    refine RunC.region ?_
    refine RunL.still rfl rfl rfl (Still.loads rfl rfl Tryd.isAgg23 Tryd.sizeOf23 (vs := [_, _, _, _]) rfl (fun _ hs => cells_nth (hs.at (i := 0) rfl) ⟨rfl, ⟨rfl, ⟨rfl, ⟨rfl, trivial⟩⟩⟩⟩)) ?_
    refine RunL.does0 rfl rfl (Does.store rfl rfl rfl (i := 1) rfl Tryd.sizeOf23 rfl (rfl) rfl) (fun _ _ => ?_)
    refine RunL.nil ?_
    refine Ends.then ?_
    refine RunC.ret ?_
    refine Ends.then_ret ?_
    refine Ends.leave (.inl rfl) (fun _ _ ok => results1 Tryd.results10 (Holds.cell rfl (fun _ hs => load_cells (vs := [_, _, _, _]) Tryd.isAgg23 Tryd.sizeOf23 rfl (cells_nth (hs.at (i := 1) rfl) ⟨rfl, ⟨rfl, ⟨rfl, ⟨rfl, trivial⟩⟩⟩⟩))) ok) (fun w1 hs => ?_)
    exact Ret.intro () trivial (by rw [invR, if_neg (by simp [hp])]; rfl) (HSub.nil _) hs
  · have hp : okP p = true := by simpa using h7
    refine RunC.skip ?_
    refine Ends.then ?_
    refine RunC.seq ?_
    refine RunC.seq ?_
    refine RunC.region ?_
    refine RunL.still rfl rfl rfl (Still.assign rfl rfl) ?_
    refine RunL.nil ?_
    refine Ends.then ?_
    refine RunC.block ?_
    refine RunC.loop2 (γ := Nat) (keep := [(1, _), (2, _), (3, _)]) (hkeep := [_, _]) (fun i => i ≤ 4) (fun i => 4 - i) (fun i => [(4, iv i)]) (fun i => [HL.obj b3 (.cells (invA p i) 23 (0, 0))]) 0 (by omega) (Fr.Sub.cons rfl (Fr.Sub.nil _)) (Fr.Sub.cons rfl (Fr.Sub.cons rfl (Fr.Sub.cons rfl (Fr.Sub.nil _)))) (HSub.pick 0 rfl (HSub.pick 0 rfl (HSub.pick 0 rfl (HSub.nil _)))) ?_
    rintro i hi
    refine RunC.seq ?_
    refine RunC.seq ?_
    refine RunC.region ?_
    refine RunL.still rfl rfl rfl (Still.move rfl rfl) ?_
    refine RunL.still rfl rfl rfl (Still.lss rfl rfl rfl) ?_
    refine RunL.nil ?_
    refine Ends.then ?_
    refine RunC.cond rfl (fun h10 => ?_) (fun h10 => ?_)
    · have h10 := of_decide_eq_true h10
      have hi4 : i < 4 := by omega
      have hpi := okP_at hp i
      refine RunC.skip ?_
      refine Ends.then ?_
      refine RunC.seq ?_
      refine RunC.block ?_
      refine RunC.region ?_
      refine RunL.still rfl rfl rfl (Still.move rfl rfl) ?_
      refine RunL.still rfl rfl rfl (Still.indexArrNL rfl rfl rfl Tryd.underlying23 Tryd.sizeOf3 (by omega)) ?_
      refine RunL.still rfl rfl rfl (Still.load (v := iv (p.at i)) rfl rfl Tryd.isAgg3 (fun _ hs => cell_nth (hs.at (i := 2) rfl) (nth_p4 hi4))) ?_
      refine RunL.still rfl rfl rfl (Still.move rfl rfl) ?_
      refine RunL.still rfl rfl rfl (Still.indexArrEL (p.at i).toNat rfl rfl rfl Tryd.underlying23 Tryd.sizeOf3 (by omega) (by omega)) ?_
      refine RunL.does0 rfl rfl (Does.store1 rfl rfl rfl (i := 0) rfl Tryd.sizeOf3 rfl (Nat.ble_eq_true_of_le (show 0 + (p.at i).toNat * 1 + 1 ≤ 4 by omega))) (fun _ _ => ?_)
      refine RunL.conv (fun _ hs => hs.re 0 rfl (show _ = HL.obj b3 (.cells (invA p (i + 1)) 23 (0, 0)) from congrArg (fun z => HL.obj b3 (.cells z 23 (0, 0))) (invA_set (by omega)))) ?_
      refine RunL.nil ?_
      refine Ends.block ?_
      refine Ends.then ?_
      refine RunC.region ?_
      refine RunL.still rfl rfl rfl (Still.move rfl rfl) ?_
      refine RunL.still rfl rfl rfl (Still.add rfl rfl rfl (fits64 (by omega) (by omega))) ?_
      refine RunL.still rfl rfl rfl (Still.assign rfl rfl) ?_
      refine RunL.nil ?_
      refine Ends.again (i + 1) ?_ ?_ (Fr.Sub.app ?_ ?_) ?_
      · show _; omega
      · show _ < _; omega
      · exact Fr.Sub.cons rfl (Fr.Sub.nil _)
      · exact Fr.Sub.cons rfl (Fr.Sub.cons rfl (Fr.Sub.cons rfl (Fr.Sub.nil _)))
      · exact HSub.pick 0 rfl (HSub.pick 0 rfl (HSub.pick 0 rfl (HSub.nil _)))
    · have h10 := of_decide_eq_false h10
      obtain rfl : i = 4 := by omega
      refine RunC.exit ?_
      refine Ends.then_exit ?_
      refine Ends.then_exit ?_
      refine Ends.block_exit ?_
      refine Ends.then ?_
      refine RunC.seq ?_
      refine RunC.conv (fun _ hs => hs.re 0 rfl (show _ = HL.obj b3 (.cells #[iv (invP p).a0, iv (invP p).a1, iv (invP p).a2, iv (invP p).a3] 23 (0, 0)) by rw [invA_four])) ?_
      refine RunC.region ?_
      refine RunL.still rfl rfl rfl (Still.loads rfl rfl Tryd.isAgg23 Tryd.sizeOf23 (vs := [_, _, _, _]) rfl (fun _ hs => cells_nth (hs.at (i := 0) rfl) ⟨rfl, ⟨rfl, ⟨rfl, ⟨rfl, trivial⟩⟩⟩⟩)) ?_
      refine RunL.does0 rfl rfl (Does.store rfl rfl rfl (i := 1) rfl Tryd.sizeOf23 rfl (rfl) rfl) (fun _ _ => ?_)
      refine RunL.nil ?_
      refine Ends.then ?_
      refine RunC.ret ?_
      refine Ends.leave (.inl rfl) (fun _ _ ok => results1 Tryd.results10 (Holds.cell rfl (fun _ hs => load_cells (vs := [_, _, _, _]) Tryd.isAgg23 Tryd.sizeOf23 rfl (cells_nth (hs.at (i := 1) rfl) ⟨rfl, ⟨rfl, ⟨rfl, ⟨rfl, trivial⟩⟩⟩⟩))) ok) (fun w2 hs => ?_)
      exact Ret.intro () trivial (by rw [invR, if_pos hp]) (HSub.nil _) hs

theorem gl_sign (p : P4) (w : World) : Gives Tryd.prog 25 #[p4V p] w Nil (fun _ : Unit => True) (fun _ => iv (sgnP p)) (fun _ => []) := by
  refine fn_of_run (S := Nil) (args := [p4V p]) (n := 25) (L := []) Tryd.func25 rfl Tryd.ntmps25 (Nat.le_of_ble_eq_true rfl) (Sym.nil _ _) ?_
  change RunC _ _ _ [(0, _)] _
  refine RunC.seq ?_
  refine RunC.region ?_
  refine RunL.grows rfl rfl rfl (Grows.box rfl rfl) (fun b1 _ => ?_)
  refine RunL.still rfl rfl rfl (Still.assign rfl rfl) ?_
  refine RunL.nil ?_
  refine Ends.then ?_
  refine RunC.seq ?_
  refine RunC.region ?_
  refine RunL.still rfl rfl rfl (Still.assign rfl rfl) ?_
  refine RunL.nil ?_
  refine Ends.then ?_
  refine RunC.seq ?_
  refine RunC.seq ?_
  refine RunC.region ?_
  refine RunL.still rfl rfl rfl (Still.move rfl rfl) ?_
  refine RunL.nil ?_
  refine Ends.then ?_
  refine RunC.block ?_
  refine RunC.loop2 (γ := Nat) (keep := [(1, _)]) (hkeep := [_]) (fun i => i ≤ 4) (fun i => 4 - i) (fun i => [(3, iv (sgnTo p i)), (6, iv i)]) (fun i => []) 0 (by omega) (Fr.Sub.cons rfl (Fr.Sub.cons rfl (Fr.Sub.nil _))) (Fr.Sub.cons rfl (Fr.Sub.nil _)) (HSub.pick 0 rfl (HSub.nil _)) ?_
  rintro i hi
  refine RunC.seq ?_
  refine RunC.region ?_
  refine RunL.still rfl rfl rfl (Still.lss rfl rfl rfl) ?_
  refine RunL.nil ?_
  refine Ends.then ?_
  refine RunC.seq ?_
  refine RunC.cond rfl (fun h7 => ?_) (fun h7 => ?_)
  · have h7 := of_decide_eq_true h7
    have hi4 : i < 4 := by omega
    refine RunC.skip ?_
    refine Ends.then ?_
    refine RunC.seq ?_
    refine RunC.block ?_
    refine RunC.seq ?_
    refine RunC.region ?_
    refine RunL.still rfl rfl rfl (Still.move rfl rfl) ?_
    refine RunL.still rfl rfl rfl (Still.assign rfl rfl) ?_
    refine RunL.nil ?_
    refine Ends.then ?_
    refine RunC.seq ?_
    refine RunC.region ?_
    refine RunL.still rfl rfl rfl (Still.move rfl rfl) ?_
    refine RunL.still rfl rfl rfl (Still.move rfl rfl) ?_
    refine RunL.nil ?_
    refine Ends.then ?_
    refine RunC.block ?_
    refine RunC.loop2 (γ := Nat) (keep := [(1, _), (4, _), (6, _), (9, _)]) (hkeep := [_]) (fun k => k ≤ i) (fun k => i - k) (fun k => [(3, iv (sgnRow p i (sgnTo p i) k)), (10, iv k)]) (fun k => []) 0 (by omega) (Fr.Sub.cons rfl (Fr.Sub.cons rfl (Fr.Sub.nil _))) (Fr.Sub.cons rfl (Fr.Sub.cons rfl (Fr.Sub.cons rfl (Fr.Sub.cons rfl (Fr.Sub.nil _))))) (HSub.pick 0 rfl (HSub.nil _)) ?_
    rintro k hk
    have hs1 := sgnRow_one (p := p) (i := i) (sgnTo_one p i) k
    refine RunC.seq ?_
    refine RunC.region ?_
    refine RunL.still rfl rfl rfl (Still.lss rfl rfl rfl) ?_
    refine RunL.nil ?_
    refine Ends.then ?_
    refine RunC.seq ?_
    refine RunC.cond rfl (fun h11 => ?_) (fun h11 => ?_)
    · have h11 := of_decide_eq_true h11
      refine RunC.skip ?_
      refine Ends.then ?_
      refine RunC.seq ?_
      refine RunC.block ?_
      refine RunC.seq ?_
      refine RunC.region ?_
      refine RunL.still rfl rfl rfl (Still.move rfl rfl) ?_
      refine RunL.still rfl rfl rfl (Still.assign rfl rfl) ?_
      refine RunL.nil ?_
      refine Ends.then ?_
      refine RunC.seq ?_
      refine RunC.draw 6 (.still 0 (.still 1 (.still 2 (.still 3 (.still 4 (.still 5 .done)))))) (by kernel_rfl) (by kernel_rfl) ?_
      refine RunG.still rfl rfl rfl rfl (Still.move rfl rfl) ?_
      refine RunG.still rfl rfl rfl rfl (Still.indexArrNL rfl rfl rfl Tryd.underlying23 Tryd.sizeOf3 (by omega)) ?_
      refine RunG.still rfl rfl rfl rfl (Still.load (v := iv (p.at k)) rfl rfl Tryd.isAgg3 (fun _ hs => cell_nth (hs.at (i := 0) rfl) (nth_p4 (by omega)))) ?_
      refine RunG.still rfl rfl rfl rfl (Still.move rfl rfl) ?_
      refine RunG.still rfl rfl rfl rfl (Still.indexArrNL rfl rfl rfl Tryd.underlying23 Tryd.sizeOf3 (by omega)) ?_
      refine RunG.still rfl rfl rfl rfl (Still.load (v := iv (p.at i)) rfl rfl Tryd.isAgg3 (fun _ hs => cell_nth (hs.at (i := 0) rfl) (nth_p4 (by omega)))) ?_
      refine RunG.done ?_
      show RunL _ _ _ [_] _ _
      refine RunL.still rfl rfl rfl (Still.gtr rfl rfl rfl) ?_
      refine RunL.nil ?_
      refine Ends.then ?_
      refine RunC.cond rfl (fun h19 => ?_) (fun h19 => ?_)
      · have h19 := of_decide_eq_true h19
        refine RunC.region ?_
        refine RunL.still rfl rfl rfl (Still.move rfl rfl) ?_
        refine RunL.still rfl rfl rfl (Still.neg rfl rfl (fits64 (by omega) (by omega))) ?_
        refine RunL.still rfl rfl rfl (Still.assign rfl rfl) ?_
        refine RunL.nil ?_
        refine Ends.block ?_
        refine Ends.then ?_
        refine RunC.region ?_
        refine RunL.still rfl rfl rfl (Still.add rfl rfl rfl (fits64 (by omega) (by omega))) ?_
        refine RunL.still rfl rfl rfl (Still.move rfl rfl) ?_
        refine RunL.nil ?_
        refine Ends.again (k + 1) ?_ ?_ (Fr.Sub.app ?_ ?_) ?_
        · show _; omega
        · show _ < _; omega
        · exact Fr.Sub.cons (by rw [sgnRow, if_pos (by omega)]; rfl) (Fr.Sub.cons rfl (Fr.Sub.nil _))
        · exact Fr.Sub.cons rfl (Fr.Sub.cons rfl (Fr.Sub.cons rfl (Fr.Sub.cons rfl (Fr.Sub.nil _))))
        · exact HSub.pick 0 rfl (HSub.nil _)
      · have h19 := of_decide_eq_false h19
        refine RunC.skip ?_
        refine Ends.block ?_
        refine Ends.then ?_
        refine RunC.region ?_
        refine RunL.still rfl rfl rfl (Still.add rfl rfl rfl (fits64 (by omega) (by omega))) ?_
        refine RunL.still rfl rfl rfl (Still.move rfl rfl) ?_
        refine RunL.nil ?_
        refine Ends.again (k + 1) ?_ ?_ (Fr.Sub.app ?_ ?_) ?_
        · show _; omega
        · show _ < _; omega
        · exact Fr.Sub.cons (by rw [sgnRow, if_neg (by omega)]; rfl) (Fr.Sub.cons rfl (Fr.Sub.nil _))
        · exact Fr.Sub.cons rfl (Fr.Sub.cons rfl (Fr.Sub.cons rfl (Fr.Sub.cons rfl (Fr.Sub.nil _))))
        · exact HSub.pick 0 rfl (HSub.nil _)
    · have h11 := of_decide_eq_false h11
      refine RunC.exit ?_
      refine Ends.then_exit ?_
      refine Ends.then_exit ?_
      refine Ends.block_exit ?_
      refine Ends.block ?_
      refine Ends.then ?_
      refine RunC.region ?_
      refine RunL.still rfl rfl rfl (Still.add rfl rfl rfl (fits64 (by omega) (by omega))) ?_
      refine RunL.still rfl rfl rfl (Still.move rfl rfl) ?_
      refine RunL.nil ?_
      obtain rfl : i = k := by omega
      refine Ends.again (i + 1) ?_ ?_ (Fr.Sub.app ?_ ?_) ?_
      · show _; omega
      · show _ < _; omega
      · exact Fr.Sub.cons rfl (Fr.Sub.cons rfl (Fr.Sub.nil _))
      · exact Fr.Sub.cons rfl (Fr.Sub.nil _)
      · exact HSub.pick 0 rfl (HSub.nil _)
  · have h7 := of_decide_eq_false h7
    obtain rfl : i = 4 := by omega
    refine RunC.exit ?_
    refine Ends.then_exit ?_
    refine Ends.then_exit ?_
    refine Ends.block_exit ?_
    refine Ends.then ?_
    refine RunC.seq ?_
    refine RunC.region ?_
    refine RunL.still rfl rfl rfl (Still.move rfl rfl) ?_
    refine RunL.still rfl rfl rfl (Still.assign rfl rfl) ?_
    refine RunL.nil ?_
    refine Ends.then ?_
    refine RunC.ret ?_
    refine Ends.leave (.inl rfl) (fun _ _ ok => results1 Tryd.results25 (Holds.tmp rfl) ok) (fun w1 hs => ?_)
    exact Ret.intro () trivial rfl (HSub.nil _) hs

theorem gl_Sign (p : P4) (w : World) : Gives Tryd.prog 11 #[p4V p] w Nil (fun _ : Unit => True) (fun _ => iv (sgnR p)) (fun _ => []) := by
  refine fn_of_run (S := Nil) (args := [p4V p]) (n := 8) (L := []) Tryd.func11 rfl Tryd.ntmps11 (Nat.le_of_ble_eq_true rfl) (Sym.nil _ _) ?_
  change RunC _ _ _ [(0, _)] _
  refine RunC.seq ?_
  refine RunC.region ?_
  refine RunL.grows rfl rfl rfl (Grows.box rfl rfl) (fun b1 _ => ?_)
  refine RunL.still rfl rfl rfl (Still.assign rfl rfl) ?_
  refine RunL.nil ?_
  refine Ends.then ?_
  refine RunC.seq ?_
  refine RunC.seq ?_
  refine RunC.region ?_
  refine RunL.still rfl rfl rfl (Still.loads rfl rfl Tryd.isAgg23 Tryd.sizeOf23 (vs := [_, _, _, _]) rfl (fun _ hs => cells_nth (hs.at (i := 0) rfl) ⟨rfl, ⟨rfl, ⟨rfl, ⟨rfl, trivial⟩⟩⟩⟩)) ?_
  refine RunL.grows rfl rfl rfl (Grows.call (vs := #[_]) rfl rfl Tryd.call5 (fun w hs => gl_Valid p w)) (fun _ _ => ?_)
  refine RunL.still rfl rfl rfl (Still.not rfl rfl) ?_
  refine RunL.nil ?_
  refine Ends.then ?_
  refine RunC.cond rfl (fun h5 => ?_) (fun h5 => ?_)
  · have hp : okP p = false := by simpa using h5
    refine RunC.seq ?_
    refine RunC.region ?_
    refine RunL.still rfl rfl rfl (Still.assign rfl rfl) ?_
    refine RunL.nil ?_
    refine Ends.then ?_
    refine RunC.ret ?_
    refine Ends.then_ret ?_
    refine Ends.leave (.inl rfl) (fun _ _ ok => results1 Tryd.results11 (Holds.tmp rfl) ok) (fun w1 hs => ?_)
    exact Ret.intro () trivial (by rw [sgnR, if_neg (by simp [hp])]) (HSub.nil _) hs
  · have hp : okP p = true := by simpa using h5
    refine RunC.skip ?_
    refine Ends.then ?_
    refine RunC.seq ?_
    refine RunC.region ?_
    refine RunL.still rfl rfl rfl (Still.loads rfl rfl Tryd.isAgg23 Tryd.sizeOf23 (vs := [_, _, _, _]) rfl (fun _ hs => cells_nth (hs.at (i := 0) rfl) ⟨rfl, ⟨rfl, ⟨rfl, ⟨rfl, trivial⟩⟩⟩⟩)) ?_
    refine RunL.grows rfl rfl rfl (Grows.call (vs := #[_]) rfl rfl Tryd.call25 (fun w hs => gl_sign p w)) (fun _ _ => ?_)
    refine RunL.still rfl rfl rfl (Still.assign rfl rfl) ?_
    refine RunL.nil ?_
    refine Ends.then ?_
    refine RunC.ret ?_
    refine Ends.leave (.inl rfl) (fun _ _ ok => results1 Tryd.results11 (Holds.tmp rfl) ok) (fun w2 hs => ?_)
    exact Ret.intro () trivial (by rw [sgnR, if_pos hp]) (HSub.nil _) hs

theorem rf_Sign (p : P4) (w : World) : Gives Tryd.prog 12 #[p4V p] w Nil (fun _ : Unit => True) (fun _ => iv (sgnR p)) (fun _ => []) := by
  refine fn_of_run (S := Nil) (args := [p4V p]) (n := 28) (L := []) Tryd.func12 rfl Tryd.ntmps12 (Nat.le_of_ble_eq_true rfl) (Sym.nil _ _) ?_
  change RunC _ _ _ [(0, _)] _
  refine RunC.seq ?_
  refine RunC.region ?_
  refine RunL.grows rfl rfl rfl (Grows.box rfl rfl) (fun b1 _ => ?_)
  refine RunL.still rfl rfl rfl (Still.assign rfl rfl) ?_
  refine RunL.nil ?_
  refine Ends.then ?_
  refine RunC.seq ?_
  refine RunC.seq ?_
  refine RunC.region ?_
  refine RunL.still rfl rfl rfl (Still.loads rfl rfl Tryd.isAgg23 Tryd.sizeOf23 (vs := [_, _, _, _]) rfl (fun _ hs => cells_nth (hs.at (i := 0) rfl) ⟨rfl, ⟨rfl, ⟨rfl, ⟨rfl, trivial⟩⟩⟩⟩)) ?_
  refine RunL.grows rfl rfl rfl (Grows.call (vs := #[_]) rfl rfl Tryd.call6 (fun w hs => rf_Valid p w)) (fun _ _ => ?_)
  refine RunL.still rfl rfl rfl (Still.not rfl rfl) ?_
  refine RunL.nil ?_
  refine Ends.then ?_
  refine RunC.cond rfl (fun h8 => ?_) (fun h8 => ?_)
  · have hp : okP p = false := by simpa using h8
    refine RunC.seq ?_
    refine RunC.region ?_
    refine RunL.still rfl rfl rfl (Still.assign rfl rfl) ?_
    refine RunL.nil ?_
    refine Ends.then ?_
    refine RunC.ret ?_
    refine Ends.then_ret ?_
    refine Ends.leave (.inl rfl) (fun _ _ ok => results1 Tryd.results12 (Holds.tmp rfl) ok) (fun w1 hs => ?_)
    exact Ret.intro () trivial (by rw [sgnR, if_neg (by simp [hp])]) (HSub.nil _) hs
  · have hp : okP p = true := by simpa using h8
    refine RunC.skip ?_
    refine Ends.then ?_
    refine RunC.seq ?_
    refine RunC.region ?_
    refine RunL.still rfl rfl rfl (Still.assign rfl rfl) ?_
    refine RunL.nil ?_
    refine Ends.then ?_
    refine RunC.seq ?_
    refine RunC.seq ?_
    refine RunC.region ?_
    refine RunL.still rfl rfl rfl (Still.assign rfl rfl) ?_
    refine RunL.nil ?_
    refine Ends.then ?_
    refine RunC.block ?_
    refine RunC.loop2 (γ := Nat) (keep := [(1, _)]) (hkeep := [_]) (fun i => i ≤ 4) (fun i => 4 - i) (fun i => [(3, iv (sgnTo p i)), (4, iv i)]) (fun i => []) 0 (by omega) (Fr.Sub.cons rfl (Fr.Sub.cons rfl (Fr.Sub.nil _))) (Fr.Sub.cons rfl (Fr.Sub.nil _)) (HSub.pick 0 rfl (HSub.nil _)) ?_
    rintro i hi
    refine RunC.seq ?_
    refine RunC.seq ?_
    refine RunC.region ?_
    refine RunL.still rfl rfl rfl (Still.move rfl rfl) ?_
    refine RunL.still rfl rfl rfl (Still.lss rfl rfl rfl) ?_
    refine RunL.nil ?_
    refine Ends.then ?_
    refine RunC.cond rfl (fun h10 => ?_) (fun h10 => ?_)
    · have h10 := of_decide_eq_true h10
      have hi4 : i < 4 := by omega
      refine RunC.skip ?_
      refine Ends.then ?_
      refine RunC.seq ?_
      refine RunC.block ?_
      refine RunC.seq ?_
      refine RunC.region ?_
      refine RunL.still rfl rfl rfl (Still.assign rfl rfl) ?_
      refine RunL.nil ?_
      refine Ends.then ?_
      refine RunC.block ?_
      refine RunC.loop2 (γ := Nat) (keep := [(1, _), (4, _)]) (hkeep := [_]) (fun k => k ≤ i) (fun k => i - k) (fun k => [(3, iv (sgnRow p i (sgnTo p i) k)), (5, iv k)]) (fun k => []) 0 (by omega) (Fr.Sub.cons rfl (Fr.Sub.cons rfl (Fr.Sub.nil _))) (Fr.Sub.cons rfl (Fr.Sub.cons rfl (Fr.Sub.nil _))) (HSub.pick 0 rfl (HSub.nil _)) ?_
      rintro k hk
      have hs1 := sgnRow_one (p := p) (i := i) (sgnTo_one p i) k
      refine RunC.seq ?_
      refine RunC.seq ?_
      refine RunC.region ?_
      refine RunL.still rfl rfl rfl (Still.move rfl rfl) ?_
      refine RunL.still rfl rfl rfl (Still.move rfl rfl) ?_
      refine RunL.still rfl rfl rfl (Still.lss rfl rfl rfl) ?_
      refine RunL.nil ?_
      refine Ends.then ?_
      refine RunC.cond rfl (fun h15 => ?_) (fun h15 => ?_)
      · have h15 := of_decide_eq_true h15
        refine RunC.skip ?_
        refine Ends.then ?_
        refine RunC.seq ?_
        refine RunC.block ?_
        refine RunC.seq ?_
        refine RunC.draw 6 (.still 0 (.still 1 (.still 2 (.still 3 (.still 4 (.still 5 .done)))))) (by kernel_rfl) (by kernel_rfl) ?_
        refine RunG.still rfl rfl rfl rfl (Still.move rfl rfl) ?_
        refine RunG.still rfl rfl rfl rfl (Still.indexArrNL rfl rfl rfl Tryd.underlying23 Tryd.sizeOf3 (by omega)) ?_
        refine RunG.still rfl rfl rfl rfl (Still.load (v := iv (p.at k)) rfl rfl Tryd.isAgg3 (fun _ hs => cell_nth (hs.at (i := 0) rfl) (nth_p4 (by omega)))) ?_
        refine RunG.still rfl rfl rfl rfl (Still.move rfl rfl) ?_
        refine RunG.still rfl rfl rfl rfl (Still.indexArrNL rfl rfl rfl Tryd.underlying23 Tryd.sizeOf3 (by omega)) ?_
        refine RunG.still rfl rfl rfl rfl (Still.load (v := iv (p.at i)) rfl rfl Tryd.isAgg3 (fun _ hs => cell_nth (hs.at (i := 0) rfl) (nth_p4 (by omega)))) ?_
        refine RunG.done ?_
        show RunL _ _ _ [_] _ _
        refine RunL.still rfl rfl rfl (Still.gtr rfl rfl rfl) ?_
        refine RunL.nil ?_
        refine Ends.then ?_
        refine RunC.cond rfl (fun h24 => ?_) (fun h24 => ?_)
        · have h24 := of_decide_eq_true h24
          refine RunC.region ?_
          refine RunL.still rfl rfl rfl (Still.move rfl rfl) ?_
          refine RunL.still rfl rfl rfl (Still.neg rfl rfl (fits64 (by omega) (by omega))) ?_
          refine RunL.still rfl rfl rfl (Still.assign rfl rfl) ?_
          refine RunL.nil ?_
          refine Ends.block ?_
          refine Ends.then ?_
          refine RunC.region ?_
          refine RunL.still rfl rfl rfl (Still.move rfl rfl) ?_
          refine RunL.still rfl rfl rfl (Still.add rfl rfl rfl (fits64 (by omega) (by omega))) ?_
          refine RunL.still rfl rfl rfl (Still.assign rfl rfl) ?_
          refine RunL.nil ?_
          refine Ends.again (k + 1) ?_ ?_ (Fr.Sub.app ?_ ?_) ?_
          · show _; omega
          · show _ < _; omega
          · exact Fr.Sub.cons (by rw [sgnRow, if_pos (by omega)]; rfl) (Fr.Sub.cons rfl (Fr.Sub.nil _))
          · exact Fr.Sub.cons rfl (Fr.Sub.cons rfl (Fr.Sub.nil _))
          · exact HSub.pick 0 rfl (HSub.nil _)
        · have h24 := of_decide_eq_false h24
          refine RunC.skip ?_
          refine Ends.block ?_
          refine Ends.then ?_
          refine RunC.region ?_
          refine RunL.still rfl rfl rfl (Still.move rfl rfl) ?_
          refine RunL.still rfl rfl rfl (Still.add rfl rfl rfl (fits64 (by omega) (by omega))) ?_
          refine RunL.still rfl rfl rfl (Still.assign rfl rfl) ?_
          refine RunL.nil ?_
          refine Ends.again (k + 1) ?_ ?_ (Fr.Sub.app ?_ ?_) ?_
          · show _; omega
          · show _ < _; omega
          · exact Fr.Sub.cons (by rw [sgnRow, if_neg (by omega)]; rfl) (Fr.Sub.cons rfl (Fr.Sub.nil _))
          · exact Fr.Sub.cons rfl (Fr.Sub.cons rfl (Fr.Sub.nil _))
          · exact HSub.pick 0 rfl (HSub.nil _)
      · have h15 := of_decide_eq_false h15
        refine RunC.exit ?_
        refine Ends.then_exit ?_
        refine Ends.then_exit ?_
        refine Ends.block_exit ?_
        refine Ends.block ?_
        refine Ends.then ?_
        refine RunC.region ?_
        refine RunL.still rfl rfl rfl (Still.move rfl rfl) ?_
        refine RunL.still rfl rfl rfl (Still.add rfl rfl rfl (fits64 (by omega) (by omega))) ?_
        refine RunL.still rfl rfl rfl (Still.assign rfl rfl) ?_
        refine RunL.nil ?_
        obtain rfl : i = k := by omega
        refine Ends.again (i + 1) ?_ ?_ (Fr.Sub.app ?_ ?_) ?_
        · show _; omega
        · show _ < _; omega
        · exact Fr.Sub.cons rfl (Fr.Sub.cons rfl (Fr.Sub.nil _))
        · exact Fr.Sub.cons rfl (Fr.Sub.nil _)
        · exact HSub.pick 0 rfl (HSub.nil _)
    · have h10 := of_decide_eq_false h10
      obtain rfl : i = 4 := by omega
      refine RunC.exit ?_
      refine Ends.then_exit ?_
      refine Ends.then_exit ?_
      refine Ends.block_exit ?_
      refine Ends.then ?_
      refine RunC.seq ?_
      refine RunC.region ?_
      refine RunL.still rfl rfl rfl (Still.move rfl rfl) ?_
      refine RunL.still rfl rfl rfl (Still.assign rfl rfl) ?_
      refine RunL.nil ?_
      refine Ends.then ?_
      refine RunC.ret ?_
      refine Ends.leave (.inl rfl) (fun _ _ ok => results1 Tryd.results12 (Holds.tmp rfl) ok) (fun w2 hs => ?_)
      exact Ret.intro () trivial (by rw [sgnR, if_pos hp]; rfl) (HSub.nil _) hs

theorem rf_Identity (w : World) : Gives Tryd.prog 13 #[] w Nil (fun _ : Unit => True) (fun _ => p4V idP) (fun _ => []) := by
  refine fn_of_run (S := Nil) (args := []) (n := 2) (L := []) Tryd.func13 rfl Tryd.ntmps13 (Nat.le_of_ble_eq_true rfl) (Sym.nil _ _) ?_
  change RunC _ _ _ [] _
  refine RunC.seq ?_
  refine RunC.region ?_
  refine RunL.grows rfl rfl rfl (Grows.alloc rfl Tryd.zeroValue23) (fun b0 _ => ?_)
  refine RunL.nil ?_
  refine Ends.then ?_
  refine RunC.seq ?_
  refine RunC.region ?_
  refine RunL.still rfl rfl rfl (Still.build_1_1_1_1 (fun x0_0 x1_0 x2_0 x3_0 => .agg #[x0_0, x1_0, x2_0, x3_0]) rfl rfl rfl rfl rfl (fun _ => by kernel_rfl)) ?_
  refine RunL.does0 rfl rfl (Does.store rfl rfl rfl (i := 0) rfl Tryd.sizeOf23 rfl (rfl) rfl) (fun _ _ => ?_)
  refine RunL.nil ?_
  refine Ends.then ?_
  refine RunC.ret ?_
  refine Ends.leave (.inl rfl) (fun _ _ ok => results1 Tryd.results13 (Holds.cell rfl (fun _ hs => load_cells (vs := [_, _, _, _]) Tryd.isAgg23 Tryd.sizeOf23 rfl (cells_nth (hs.at (i := 0) rfl) ⟨rfl, ⟨rfl, ⟨rfl, ⟨rfl, trivial⟩⟩⟩⟩))) ok) (fun w1 hs => ?_)
  exact Ret.intro () trivial rfl (HSub.nil _) hs

theorem gl_identity (w : World) : Gives Tryd.prog 30 #[] w Nil (fun _ : Unit => True) (fun _ => p4V idP) (fun _ => []) := by
  refine fn_of_run (S := Nil) (args := []) (n := 2) (L := []) Tryd.func30 rfl Tryd.ntmps30 (Nat.le_of_ble_eq_true rfl) (Sym.nil _ _) ?_
  change RunC _ _ _ [] _
  refine RunC.seq ?_
  refine RunC.region ?_
  refine RunL.grows rfl rfl rfl (Grows.alloc rfl Tryd.zeroValue23) (fun b0 _ => ?_)
  refine RunL.nil ?_
  refine Ends.then ?_
  refine RunC.seq ?_
  refine RunC.region ?_
  refine RunL.still rfl rfl rfl (Still.build_1_1_1_1 (fun x0_0 x1_0 x2_0 x3_0 => .agg #[x0_0, x1_0, x2_0, x3_0]) rfl rfl rfl rfl rfl (fun _ => by kernel_rfl)) ?_
  refine RunL.does0 rfl rfl (Does.store rfl rfl rfl (i := 0) rfl Tryd.sizeOf23 rfl (rfl) rfl) (fun _ _ => ?_)
  refine RunL.nil ?_
  refine Ends.then ?_
  refine RunC.ret ?_
  refine Ends.leave (.inl rfl) (fun _ _ ok => results1 Tryd.results30 (Holds.cell rfl (fun _ hs => load_cells (vs := [_, _, _, _]) Tryd.isAgg23 Tryd.sizeOf23 rfl (cells_nth (hs.at (i := 0) rfl) ⟨rfl, ⟨rfl, ⟨rfl, ⟨rfl, trivial⟩⟩⟩⟩))) ok) (fun w1 hs => ?_)
  exact Ret.intro () trivial rfl (HSub.nil _) hs

end Go.Proofs
/- Faces and the check of gluings: contracts of both texts. -/
namespace Go.Proofs
open Go Go.V
set_option maxRecDepth 20000
theorem eqF (d : Nat) (s a b c f s' a' b' c' f' : Int) (w : World) : (Op.equalIn (d + 3) 36 (.agg #[iv s, iv a, iv b, iv c, iv f]) (.agg #[iv s', iv a', iv b', iv c', iv f'])).run Tryd.prog w = .ok (decide (s = s' ∧ a = a' ∧ b = b' ∧ c = c' ∧ f = f')) w :=
  eq_oneFour Tryd.underlying36 Tryd.stoodInHeld36 Tryd.underlying3 Tryd.underlying23 Tryd.underlying3 (by kernel_rfl : Tryd.prog.info? 3 = some Tryd.t3) (by kernel_rfl) Tryd.sizeOf23 (by decide) (by decide) rfl rfl d s a b c f s' a' b' c' f' w

theorem gl_faces (base : Option Addr) (A : Addr) (cap : Nat) (g : Glu) (w : World) : Gives Tryd.prog 27 #[gluV base cap g] w Nil (fun _ : Nat => True) (fun b => .func (.func 38) #[] #[ptrV b]) (fun b => [HL.obj b (.cells #[.slice base g.length cap] 33 (0, 0))]) := by
  refine fn_of_run (S := Nil) (args := [gluV base cap g]) (n := 4) (L := []) Tryd.func27 rfl Tryd.ntmps27 (Nat.le_of_ble_eq_true rfl) (Sym.nil _ _) ?_
  change RunC _ _ _ [(0, _)] _
  refine RunC.seq ?_
  refine RunC.region ?_
  refine RunL.grows rfl rfl rfl (Grows.box rfl rfl) (fun b1 _ => ?_)
  refine RunL.still rfl rfl rfl (Still.assign rfl rfl) ?_
  refine RunL.nil ?_
  refine Ends.then ?_
  refine RunC.seq ?_
  refine RunC.region ?_
  refine RunL.still rfl rfl rfl (Still.makeFunc (vs := #[_]) rfl rfl) ?_
  refine RunL.still rfl rfl rfl (Still.assign rfl rfl) ?_
  refine RunL.nil ?_
  refine Ends.then ?_
  refine RunC.ret ?_
  refine Ends.leave (.inl rfl) (fun _ _ ok => results1 Tryd.results27 (Holds.tmp rfl) ok) (fun w1 hs => ?_)
  exact Ret.intro b1 trivial rfl (HSub.pick 0 rfl (HSub.nil _)) hs

theorem gl_faces1 (base : Option Addr) (A : Addr) (cap : Nat) (g : Glu) (l gb : Nat) {σ : Type} (s0 : σ) (jmp : σ → Option Code) (J : Nat → σ → HL) (w : World) (h0 : jmp s0 = none) (hJ : (J 0 s0).holds w) (hlt : ∀ b, (J 0 s0).supp b → b < w.heap.size) (hg : ∀ w', Old (J 0 s0).supp w w' → GluAt w' base A g)
  (hb : ∀ w', Old (J 0 s0).supp w w' → w'.cell? ⟨gb, 0, none⟩ = some (.slice base g.length cap))
  (hy : ∀ t f s, t < g.length → f < 4 → jmp s = none → ∀ w', Old (J 0 s0).supp w w' → (J (4 * t + f) s).holds w' → (∀ b, (J (4 * t + f) s).supp b → b < w'.heap.size ∧ (w.heap.size ≤ b ∨ (J 0 s0).supp b)) → YieldsJ Tryd.prog l #[.agg #[iv t, iv f], fcV (fAt g t f)] w' (J (4 * t + f) s).supp jmp (J (4 * t + f + 1))) :
  Gives Tryd.prog 38 #[.func (.yield l) #[] #[], ptrV gb] w (J 0 s0).supp (fun r : Nat × σ => jmp r.2 = none → r.1 = 4 * g.length) (fun _ => .tuple #[]) (fun r => [J r.1 r.2]) := by
  have hgw := hg w (Old.refl _ w)
  have hlen := hgw.len
  refine fn_of_run (S := (J 0 s0).supp) (args := [.func (.yield l) #[] #[], ptrV gb]) (n := 30) (L := [J 0 s0]) Tryd.func38 rfl Tryd.ntmps38 (Nat.le_of_ble_eq_true rfl) (Sym.own1 hJ hlt) ?_
  change RunC _ _ _ [(0, _), (1, _)] _
  refine RunC.seq ?_
  refine RunC.region ?_
  refine RunL.still rfl rfl rfl (Still.fieldAddrA (off := 0) rfl rfl Tryd.underlying33 rfl Tryd.sizeOf31 rfl) ?_
  refine RunL.still rfl rfl rfl (Still.load (v := .slice base g.length cap) rfl rfl Tryd.isAgg31 (fun _ hs => hb _ hs.old)) ?_
  refine RunL.still rfl rfl rfl (Still.lenSlice rfl rfl Tryd.underlying31) ?_
  refine RunL.still rfl rfl rfl (Still.move rfl rfl) ?_
  refine RunL.nil ?_
  refine Ends.then ?_
  refine RunC.block ?_
  refine RunC.loop2 (γ := Nat × σ) (keep := [(0, _), (1, _), (8, _)]) (hkeep := []) (fun (t, s) => t ≤ g.length ∧ jmp s = none) (fun (t, s) => g.length - t) (fun (t, s) => [(9, iv t)]) (fun (t, s) => [J (4 * t) s]) (0, s0) ⟨by omega, h0⟩ (Fr.Sub.cons rfl (Fr.Sub.nil _)) (Fr.Sub.cons rfl (Fr.Sub.cons rfl (Fr.Sub.cons rfl (Fr.Sub.nil _)))) (HSub.pick 0 rfl (HSub.nil _)) ?_
  rintro ⟨t, s⟩ ⟨ht, hjs⟩
  have ht : t ≤ g.length := ht
  have hjs : jmp s = none := hjs
  refine RunC.seq ?_
  refine RunC.region ?_
  refine RunL.still rfl rfl rfl (Still.lss rfl rfl rfl) ?_
  refine RunL.nil ?_
  refine Ends.then ?_
  refine RunC.seq ?_
  refine RunC.cond rfl (fun h10 => ?_) (fun h10 => ?_)
  · have h10 := of_decide_eq_true h10
    have htN : t < g.length := by omega
    obtain ⟨x, hx⟩ := get_of_lt (l := g) (i := t) (by omega)
    refine RunC.skip ?_
    refine Ends.then ?_
    refine RunC.seq ?_
    refine RunC.block ?_
    refine RunC.seq ?_
    refine RunC.region ?_
    refine RunL.still rfl rfl rfl (Still.move rfl rfl) ?_
    refine RunL.still rfl rfl rfl (Still.assign rfl rfl) ?_
    refine RunL.nil ?_
    refine Ends.then ?_
    refine RunC.seq ?_
    refine RunC.region ?_
    refine RunL.still rfl rfl rfl (Still.fieldAddrA (off := 0) rfl rfl Tryd.underlying33 rfl Tryd.sizeOf31 rfl) ?_
    refine RunL.still rfl rfl rfl (Still.load (v := .slice base g.length cap) rfl rfl Tryd.isAgg31 (fun _ hs => hb _ hs.old)) ?_
    refine RunL.still rfl rfl rfl (Still.move rfl rfl) ?_
    refine RunL.still rfl rfl rfl (Still.indexSliceN rfl rfl rfl Tryd.underlying31 Tryd.sizeOf37 (hgw.base (by omega)) (by omega)) ?_
    refine RunL.still rfl rfl rfl (Still.loads rfl rfl Tryd.isAgg37 Tryd.sizeOf37 (vs := [iv x.f0.tet, iv x.f0.p.a0, iv x.f0.p.a1, iv x.f0.p.a2, iv x.f0.p.a3, iv x.f1.tet, iv x.f1.p.a0, iv x.f1.p.a1, iv x.f1.p.a2, iv x.f1.p.a3, iv x.f2.tet, iv x.f2.p.a0, iv x.f2.p.a1, iv x.f2.p.a2, iv x.f2.p.a3, iv x.f3.tet, iv x.f3.p.a0, iv x.f3.p.a1, iv x.f3.p.a2, iv x.f3.p.a3]) rfl (fun _ hs => (hg _ hs.old).cell t x hx)) ?_
    refine RunL.still rfl rfl rfl (Still.move rfl rfl) ?_
    refine RunL.nil ?_
    refine Ends.then ?_
    refine RunC.block ?_
    refine RunC.loop2 (γ := Nat × σ) (keep := [(0, _), (1, _), (3, _), (8, _), (9, _), (16, _)]) (hkeep := []) (fun (f, s) => f ≤ 4 ∧ jmp s = none) (fun (f, s) => 4 - f) (fun (f, s) => [(17, iv f)]) (fun (f, s) => [J (4 * t + f) s]) (0, s) ⟨by omega, hjs⟩ (Fr.Sub.cons rfl (Fr.Sub.nil _)) (Fr.Sub.cons rfl (Fr.Sub.cons rfl (Fr.Sub.cons rfl (Fr.Sub.cons rfl (Fr.Sub.cons rfl (Fr.Sub.cons rfl (Fr.Sub.nil _))))))) (HSub.pick 0 rfl (HSub.nil _)) ?_
    rintro ⟨f, s⟩ ⟨hf, hjs⟩
    have hf : f ≤ 4 := hf
    have hjs : jmp s = none := hjs
    refine RunC.seq ?_
    refine RunC.region ?_
    refine RunL.still rfl rfl rfl (Still.lss rfl rfl rfl) ?_
    refine RunL.nil ?_
    refine Ends.then ?_
    refine RunC.seq ?_
    refine RunC.cond rfl (fun h18 => ?_) (fun h18 => ?_)
    · have h18 := of_decide_eq_true h18
      have hf4 : f < 4 := by omega
      refine RunC.skip ?_
      refine Ends.then ?_
      refine RunC.seq ?_
      refine RunC.block ?_
      refine RunC.seq ?_
      refine RunC.region ?_
      refine RunL.still rfl rfl rfl (Still.move rfl rfl) ?_
      refine RunL.still rfl rfl rfl (Still.indexAgg rfl rfl rfl Tryd.underlying37 Tryd.sizeOf36 Tryd.isAgg36 ⟨by omega, by omega⟩ (ttV_part x hf4)) ?_
      refine RunL.grows rfl rfl rfl (Grows.alloc rfl Tryd.zeroValue36) (fun b5 _ => ?_)
      refine RunL.still rfl rfl rfl (Still.assign rfl rfl) ?_
      refine RunL.does0 rfl rfl (Does.store rfl rfl rfl (i := 0) rfl Tryd.sizeOf36 rfl (rfl) rfl) (fun _ _ => ?_)
      refine RunL.nil ?_
      refine Ends.then ?_
      refine RunC.seq ?_
      refine RunC.region ?_
      refine RunL.still rfl rfl rfl (Still.move rfl rfl) ?_
      refine RunL.still rfl rfl rfl (Still.move rfl rfl) ?_
      refine RunL.still rfl rfl rfl (Still.move rfl rfl) ?_
      refine RunL.still rfl rfl rfl (Still.build_1_1 (fun x0_0 x1_0 => .agg #[x0_0, x1_0]) rfl rfl rfl (fun _ => by kernel_rfl)) ?_
      refine RunL.still rfl rfl rfl (Still.loads rfl rfl Tryd.isAgg36 Tryd.sizeOf36 (vs := [_, _, _, _, _]) rfl (fun _ hs => cells_nth (hs.at (i := 0) rfl) ⟨rfl, ⟨rfl, ⟨rfl, ⟨rfl, ⟨rfl, trivial⟩⟩⟩⟩⟩)) ?_
      refine RunL.does rfl rfl rfl (Does.yieldJ (l := l) (jmp := jmp) (H := J (4 * t + f + 1)) rfl rfl rfl rfl (i := 1) rfl (fun w hs => by have h := hy t f s htN hf4 hjs w hs.old (hs.at (i := 1) rfl) (hs.supp _ (List.mem_of_getElem? (i := 1) rfl)); rw [fAt_of hx] at h; exact h)) (fun s26 _ => ?_)
      refine RunL.still rfl rfl rfl (Still.not rfl rfl) ?_
      refine RunL.nil ?_
      refine Ends.then ?_
      refine RunC.cond rfl (fun h27 => ?_) (fun h27 => ?_)
      · skip
        refine RunC.ret ?_
        refine Ends.block_ret ?_
        refine Ends.then_ret ?_
        refine Ends.then_ret ?_
        refine Ends.block_ret ?_
        refine Ends.block_ret ?_
        refine Ends.then_ret ?_
        refine Ends.then_ret ?_
        refine Ends.block_ret ?_
        refine Ends.leave (.inl rfl) (fun _ _ ok => results0 Tryd.results38  ok) (fun w1 hs => ?_)
        exact Ret.intro (4 * t + f + 1, s26) (fun h => by have h : jmp s26 = none := h; simp [h] at h27) rfl (HSub.pick 1 rfl (HSub.nil _)) hs
      · skip
        refine RunC.skip ?_
        refine Ends.block ?_
        refine Ends.then ?_
        refine RunC.region ?_
        refine RunL.still rfl rfl rfl (Still.add rfl rfl rfl (fits64 (by omega) (by omega))) ?_
        refine RunL.still rfl rfl rfl (Still.move rfl rfl) ?_
        refine RunL.nil ?_
        refine Ends.again (f + 1, s26) ?_ ?_ (Fr.Sub.app ?_ ?_) ?_
        · exact ⟨by show f + 1 ≤ 4; omega, by simpa using h27⟩
        · show 4 - (f + 1) < 4 - f; omega
        · exact Fr.Sub.cons rfl (Fr.Sub.nil _)
        · exact Fr.Sub.cons rfl (Fr.Sub.cons rfl (Fr.Sub.cons rfl (Fr.Sub.cons rfl (Fr.Sub.cons rfl (Fr.Sub.cons rfl (Fr.Sub.nil _))))))
        · exact HSub.pick 1 rfl (HSub.nil _)
    · have h18 := of_decide_eq_false h18
      obtain rfl : f = 4 := by omega
      refine RunC.exit ?_
      refine Ends.then_exit ?_
      refine Ends.then_exit ?_
      refine Ends.block_exit ?_
      refine Ends.block ?_
      refine Ends.then ?_
      refine RunC.region ?_
      refine RunL.still rfl rfl rfl (Still.add rfl rfl rfl (fits64 (by omega) (by omega))) ?_
      refine RunL.still rfl rfl rfl (Still.move rfl rfl) ?_
      refine RunL.nil ?_
      refine Ends.again (t + 1, s) ?_ ?_ (Fr.Sub.app ?_ ?_) ?_
      · exact ⟨by show t + 1 ≤ _; omega, hjs⟩
      · show _ - (t + 1) < _ - t; omega
      · exact Fr.Sub.cons rfl (Fr.Sub.nil _)
      · exact Fr.Sub.cons rfl (Fr.Sub.cons rfl (Fr.Sub.cons rfl (Fr.Sub.nil _)))
      · exact HSub.pick 0 rfl (HSub.nil _)
  · have h10 := of_decide_eq_false h10
    obtain rfl : t = g.length := by omega
    refine RunC.exit ?_
    refine Ends.then_exit ?_
    refine Ends.then_exit ?_
    refine Ends.block_exit ?_
    refine Ends.leave (.inr rfl) (fun _ _ ok => results0 Tryd.results38  ok) (fun w2 hs => ?_)
    exact Ret.intro (4 * g.length, s) (fun _ => rfl) rfl (HSub.pick 0 rfl (HSub.nil _)) hs

theorem gl_Check (base : Option Addr) (A : Addr) (cap : Nat) (g : Glu) (w : World) (hg : GluAt w base A g) : Gives Tryd.prog 22 #[gluV base cap g] w Nil (fun _ : Unit => True) (fun _ => iv (chkG g)) (fun _ => []) := by
  have hlen := hg.len
  refine fn_of_runM (S := Nil) (args := [gluV base cap g]) (n := 71) (L := []) Tryd.func22 rfl Tryd.ntmps22 (Nat.le_of_ble_eq_true rfl) (Sym.nil _ _) ?_
  change RunC _ _ _ [(0, _)] _
  refine RunC.conv (fun _ hs => hs.marks_nil) ?_
  refine RunC.seq ?_
  refine RunC.region ?_
  refine RunL.grows rfl rfl rfl (Grows.box rfl rfl) (fun b1 _ => ?_)
  refine RunL.grows rfl rfl rfl (Grows.alloc rfl Tryd.zeroValue38) (fun b2 _ => ?_)
  refine RunL.nil ?_
  refine Ends.then ?_
  refine RunC.seq ?_
  refine RunC.seq ?_
  refine RunC.region ?_
  refine RunL.still rfl rfl rfl (Still.fieldAddrL (off := 0) (off' := 0) rfl rfl Tryd.underlying33 rfl Tryd.sizeOf31 rfl) ?_
  refine RunL.still rfl rfl rfl (Still.load rfl rfl Tryd.isAgg31 (fun _ hs => cell_nth (hs.at (i := 1) rfl) rfl)) ?_
  refine RunL.still rfl rfl rfl (Still.lenSlice rfl rfl Tryd.underlying31) ?_
  refine RunL.still rfl rfl rfl (Still.gtr rfl rfl rfl) ?_
  refine RunL.nil ?_
  refine Ends.then ?_
  refine RunC.cond rfl (fun h9 => ?_) (fun h9 => ?_)
  · have h9 := of_decide_eq_true h9
    refine RunC.seq ?_
    refine RunC.region ?_
    refine RunL.does0 rfl rfl (Does.store1 rfl rfl rfl (i := 0) rfl Tryd.sizeOf38 (rfl) (rfl)) (fun _ _ => ?_)
    refine RunL.nil ?_
    refine Ends.then ?_
    refine RunC.ret ?_
    refine Ends.then_ret ?_
    refine Ends.leaveM (Ds := []) (H := [_]) (.inl rfl) (HSub.pick 2 rfl (HSub.pick 0 rfl (HSub.nil _))) (fun _ _ ok => ok.results1 Tryd.results22 (Holds.cell rfl (fun _ hs => load_one Tryd.isAgg38 (cell_nth (hs.at (i := 0) rfl) rfl)))) (fun w1 hs => ?_)
    exact Ret.intro () trivial (by rw [chkG_big (by omega)]) (HSub.nil _) hs
  · have h9 := of_decide_eq_false h9
    refine RunC.skip ?_
    refine Ends.then ?_
    refine RunC.seq ?_
    refine RunC.region ?_
    refine RunL.still rfl rfl rfl (Still.build_1 (fun x0_0 => .agg #[x0_0, .int .i64 0, .int .i64 0, .int .i64 0, .int .i64 0]) rfl rfl (fun _ => by kernel_rfl)) ?_
    refine RunL.grows rfl rfl rfl (Grows.alloc rfl Tryd.zeroValue36) (fun b3 _ => ?_)
    refine RunL.does0 rfl rfl (Does.store rfl rfl rfl (i := 0) rfl Tryd.sizeOf36 rfl (rfl) rfl) (fun _ _ => ?_)
    refine RunL.nil ?_
    refine Ends.then ?_
    refine RunC.seq ?_
    refine RunC.seq ?_
    refine RunC.region ?_
    refine RunL.still rfl rfl rfl (Still.loads rfl rfl Tryd.isAgg33 Tryd.sizeOf33 (vs := [_]) rfl (fun _ hs => cells_nth (hs.at (i := 2) rfl) ⟨rfl, trivial⟩)) ?_
    refine RunL.grows rfl rfl rfl (Grows.call (vs := #[_]) rfl rfl Tryd.call27 (fun w hs => gl_faces base A cap g w)) (fun gb _ => ?_)
    refine RunL.nil ?_
    refine Ends.then ?_
    refine RunC.block ?_
    refine RunC.conv (fun _ hs => hs.pureI (p := ChkI g 0 false) (rfl)) ?_
    refine RunC.conv (fun _ hs => Sym.all (l := [_, _, _, _]) (hs.sub (HSub.pick 3 rfl (HSub.pick 3 rfl (HSub.pick 2 rfl (HSub.pick 0 rfl (HSub.pick 0 rfl (HSub.pick 0 rfl (HSub.nil _))))))))) ?_
    refine RunC.rangeFuncJ (V := .tuple #[]) (gf := 38) (N := 4 * g.length) (lb := #[ptrV gb]) false (fun s : Bool => bif s then some .ret else none) (fun j => [.agg #[iv ((j / 4 : Nat) : Int), iv ((j % 4 : Nat) : Int)], fcV (fAt g (j / 4) (j % 4))]) (fun j s => HL.all [HL.obj b2 (.cells #[iv (errC s)] 38 (0, 0)), HL.obj b1 (.cells #[.slice base g.length cap] 33 (0, 0)), HL.obj b3 (.cells #[iv (-1), iv 0, iv 0, iv 0, iv 0] 36 (0, 0)), HL.pure (ChkI g j s)]) rfl rfl (fun _ => rfl) rfl Tryd.call38 rfl (HSub.pick 0 rfl (HSub.refl _)) ?_ ?_ ?_
    · intro l rc j s w S hO hS hj hjs ha hb
      obtain rfl : s = false := by cases s; rfl; cases hjs
      obtain ⟨t, f, rfl, hf4⟩ : ∃ t f, j = 4 * t + f ∧ f < 4 := ⟨j / 4, j % 4, by omega, by omega⟩
      have htN : t < g.length := by omega
      have e1 : (4 * t + f) / 4 = t := by omega
      have e2 : (4 * t + f) % 4 = f := by omega
      rw [e1, e2]
      refine RunC.seq ?_
      refine RunC.region ?_
      refine RunL.grows rfl rfl rfl (Grows.alloc rfl Tryd.zeroValue57) (fun b4 _ => ?_)
      refine RunL.does0 rfl rfl (Does.store rfl rfl rfl (i := 0) rfl Tryd.sizeOf57 rfl (rfl) rfl) (fun _ _ => ?_)
      refine RunL.nil ?_
      refine Ends.then ?_
      refine RunC.region ?_
      refine RunL.grows rfl rfl rfl (Grows.alloc rfl Tryd.zeroValue36) (fun b5 _ => ?_)
      refine RunL.does0 rfl rfl (Does.store rfl rfl rfl (i := 0) rfl Tryd.sizeOf36 rfl (rfl) rfl) (fun _ _ => ?_)
      refine RunL.nil ?_
      refine Ends.roundBeginJ (Fr.Sub.refl _) (HSub.pick 2 rfl (HSub.refl _)) ?_
      refine RunC.conv (fun _ hs => Sym.unall (hs.sub (HSub.pick 3 rfl (HSub.pick 0 rfl (HSub.pick 0 rfl (HSub.pick 0 rfl (HSub.nil _))))))) ?_
      refine RunC.know (fun _ hs => hs.at (i := 3) rfl) (fun I => ?_)
      refine RunC.conv (fun _ hs => hs.sub (HSub.pick 0 rfl (HSub.pick 0 rfl (HSub.pick 0 rfl (HSub.pick 1 rfl (HSub.pick 1 rfl (HSub.pick 1 rfl (HSub.nil _)))))))) ?_
      have hI : facesTo g (4 * t + f) = true := I
      refine RunC.block ?_
      refine RunC.seq ?_
      refine RunC.seq ?_
      refine RunC.region ?_
      refine RunL.still rfl rfl rfl (Still.loads rfl rfl Tryd.isAgg36 Tryd.sizeOf36 (vs := [_, _, _, _, _]) rfl (fun _ hs => cells_nth (hs.at (i := 4) rfl) ⟨rfl, ⟨rfl, ⟨rfl, ⟨rfl, ⟨rfl, trivial⟩⟩⟩⟩⟩)) ?_
      refine RunL.still rfl rfl rfl (Still.loads rfl rfl Tryd.isAgg36 Tryd.sizeOf36 (vs := [_, _, _, _, _]) rfl (fun _ hs => cells_nth (hs.at (i := 2) rfl) ⟨rfl, ⟨rfl, ⟨rfl, ⟨rfl, ⟨rfl, trivial⟩⟩⟩⟩⟩)) ?_
      refine RunL.still rfl rfl rfl (Still.eqlAgg rfl rfl rfl Tryd.eqGuardType36 (fun _ => eqF _ _ _ _ _ _ _ _ _ _ _ _)) ?_
      refine RunL.nil ?_
      refine Ends.then ?_
      refine RunC.cond rfl (fun h17 => ?_) (fun h17 => ?_)
      · skip
        refine RunC.exit ?_
        refine Ends.then_exit ?_
        refine Ends.block_exit ?_
        refine Ends.conv (fun _ hs => hs.pureI (p := (ChkI g (4 * t + f + 1) false)) (ChkI.next hf4 hI (faceOk_noF (fc_eq.1 (of_decide_eq_true h17))))) ?_
        refine Ends.conv (fun _ hs => (Sym.all (l := [HL.obj b2 (.cells #[iv (errC false)] 38 (0, 0)), HL.obj b1 (.cells #[.slice base g.length cap] 33 (0, 0)), HL.obj b3 (.cells #[iv (-1), iv 0, iv 0, iv 0, iv 0] 36 (0, 0)), HL.pure (ChkI g (4 * t + f + 1) false)]) (hs.sub (HSub.pick 1 rfl (HSub.pick 1 rfl (HSub.pick 1 rfl (HSub.pick 0 rfl (HSub.pick 0 rfl (HSub.nil _)))))))).sub (HSub.pick 1 rfl (HSub.pick 0 rfl (HSub.nil _)))) (Ends.roundEndJ false rfl (HSub.refl _))
      · have hno : fAt g t f ≠ noF := fun e => of_decide_eq_false h17 (fc_eq.2 e)
        refine RunC.skip ?_
        refine Ends.then ?_
        refine RunC.seq ?_
        refine RunC.seq ?_
        refine RunC.draw 33 (.still 0 (.still 1 (.still 2 (.still 3 (.still 4 (.still 5 (.still 6 (.still 7 (.still 8 (.still 9 (.still 10 (.still 11 (.still 12 (.still 13 (.one 14 (.still 15 (.still 16 (.still 17 (.still 18 (.still 19 (.still 20 (.still 21 (.still 22 (.still 23 (.still 24 (.still 25 (.still 26 (.still 27 (.still 28 (.still 29 (.still 30 (.still 31 (.still 32 .done))))))))))))))))))))))))))))))))) (by kernel_rfl) (by kernel_rfl) ?_
        refine RunG.still rfl rfl rfl rfl (Still.fieldAddrL (off := 0) (off' := 0) rfl rfl Tryd.underlying36 rfl Tryd.sizeOf3 rfl) ?_
        refine RunG.still rfl rfl rfl rfl (Still.load rfl rfl Tryd.isAgg3 (fun _ hs => cell_nth (hs.at (i := 4) rfl) rfl)) ?_
        refine RunG.still rfl rfl rfl rfl (Still.lss rfl rfl rfl) ?_
        refine RunG.still rfl rfl rfl rfl (Still.move rfl rfl) ?_
        refine RunG.split (t := 21) rfl (fun h21 => ?_) (fun h21 => ?_)
        · have h21 := of_decide_eq_true h21
          refine RunG.off rfl rfl rfl rfl ?_
          refine RunG.off rfl rfl rfl rfl ?_
          refine RunG.off rfl rfl rfl rfl ?_
          refine RunG.off rfl rfl rfl rfl ?_
          refine RunG.off rfl rfl rfl rfl ?_
          refine RunG.off rfl rfl rfl rfl ?_
          refine RunG.still rfl rfl rfl rfl (Still.pickT rfl rfl rfl) ?_
          refine RunG.still rfl rfl rfl rfl (Still.move rfl rfl) ?_
          refine RunG.off rfl rfl rfl rfl ?_
          refine RunG.off rfl rfl rfl rfl ?_
          refine RunG.off' rfl rfl rfl rfl ?_
          refine RunG.off rfl rfl rfl rfl ?_
          refine RunG.still rfl rfl rfl rfl (Still.pickT rfl rfl rfl) ?_
          refine RunG.still rfl rfl rfl rfl (Still.move rfl rfl) ?_
          refine RunG.off rfl rfl rfl rfl ?_
          refine RunG.off rfl rfl rfl rfl ?_
          refine RunG.off rfl rfl rfl rfl ?_
          refine RunG.off rfl rfl rfl rfl ?_
          refine RunG.off rfl rfl rfl rfl ?_
          refine RunG.off rfl rfl rfl rfl ?_
          refine RunG.off rfl rfl rfl rfl ?_
          refine RunG.off rfl rfl rfl rfl ?_
          refine RunG.off rfl rfl rfl rfl ?_
          refine RunG.off rfl rfl rfl rfl ?_
          refine RunG.off rfl rfl rfl rfl ?_
          refine RunG.off rfl rfl rfl rfl ?_
          refine RunG.off rfl rfl rfl rfl ?_
          refine RunG.off rfl rfl rfl rfl ?_
          refine RunG.off rfl rfl rfl rfl ?_
          refine RunG.done ?_
          show RunL _ _ _ [_] _ _
          refine RunL.still rfl rfl rfl (Still.pickT rfl rfl rfl) ?_
          refine RunL.nil ?_
          refine Ends.then ?_
          refine RunC.cond_true rfl ?_
          refine RunC.seq ?_
          refine RunC.region ?_
          refine RunL.does0 rfl rfl (Does.store1 rfl rfl rfl (i := 0) rfl Tryd.sizeOf38 (rfl) (rfl)) (fun _ _ => ?_)
          refine RunL.nil ?_
          refine Ends.then ?_
          refine RunC.ret ?_
          refine Ends.then_ret ?_
          refine Ends.block_ret ?_
          refine Ends.conv (fun _ hs => hs.pureI (p := (ChkI g (4 * t + f + 1) true)) (ChkI.stop htN hf4 hno (fun h => by have := h.lo; omega) _)) ?_
          refine Ends.conv (fun _ hs => (Sym.all (l := [HL.obj b2 (.cells #[iv (errC true)] 38 (0, 0)), HL.obj b1 (.cells #[.slice base g.length cap] 33 (0, 0)), HL.obj b3 (.cells #[iv (-1), iv 0, iv 0, iv 0, iv 0] 36 (0, 0)), HL.pure (ChkI g (4 * t + f + 1) true)]) (hs.sub (HSub.pick 1 rfl (HSub.pick 1 rfl (HSub.pick 1 rfl (HSub.pick 0 rfl (HSub.pick 0 rfl (HSub.nil _)))))))).sub (HSub.pick 1 rfl (HSub.pick 0 rfl (HSub.nil _)))) (Ends.roundRetJ true rfl (HSub.refl _))
        · have h21 := of_decide_eq_false h21
          refine RunG.still rfl rfl rfl rfl (Still.fieldAddrL (off := 0) (off' := 0) rfl rfl Tryd.underlying36 rfl Tryd.sizeOf3 rfl) ?_
          refine RunG.still rfl rfl rfl rfl (Still.load rfl rfl Tryd.isAgg3 (fun _ hs => cell_nth (hs.at (i := 4) rfl) rfl)) ?_
          refine RunG.still rfl rfl rfl rfl (Still.fieldAddrL (off := 0) (off' := 0) rfl rfl Tryd.underlying33 rfl Tryd.sizeOf31 rfl) ?_
          refine RunG.still rfl rfl rfl rfl (Still.load rfl rfl Tryd.isAgg31 (fun _ hs => cell_nth (hs.at (i := 1) rfl) rfl)) ?_
          refine RunG.still rfl rfl rfl rfl (Still.lenSlice rfl rfl Tryd.underlying31) ?_
          refine RunG.still rfl rfl rfl rfl (Still.geq rfl rfl rfl) ?_
          refine RunG.still rfl rfl rfl rfl (Still.pickF rfl rfl rfl) ?_
          refine RunG.still rfl rfl rfl rfl (Still.move rfl rfl) ?_
          refine RunG.split (t := 29) rfl (fun h29 => ?_) (fun h29 => ?_)
          · have h29 := of_decide_eq_true h29
            refine RunG.off rfl rfl rfl rfl ?_
            refine RunG.off rfl rfl rfl rfl ?_
            refine RunG.off' rfl rfl rfl rfl ?_
            refine RunG.off rfl rfl rfl rfl ?_
            refine RunG.still rfl rfl rfl rfl (Still.pickT rfl rfl rfl) ?_
            refine RunG.still rfl rfl rfl rfl (Still.move rfl rfl) ?_
            refine RunG.off rfl rfl rfl rfl ?_
            refine RunG.off rfl rfl rfl rfl ?_
            refine RunG.off rfl rfl rfl rfl ?_
            refine RunG.off rfl rfl rfl rfl ?_
            refine RunG.off rfl rfl rfl rfl ?_
            refine RunG.off rfl rfl rfl rfl ?_
            refine RunG.off rfl rfl rfl rfl ?_
            refine RunG.off rfl rfl rfl rfl ?_
            refine RunG.off rfl rfl rfl rfl ?_
            refine RunG.off rfl rfl rfl rfl ?_
            refine RunG.off rfl rfl rfl rfl ?_
            refine RunG.off rfl rfl rfl rfl ?_
            refine RunG.off rfl rfl rfl rfl ?_
            refine RunG.off rfl rfl rfl rfl ?_
            refine RunG.off rfl rfl rfl rfl ?_
            refine RunG.done ?_
            show RunL _ _ _ [_] _ _
            refine RunL.still rfl rfl rfl (Still.pickT rfl rfl rfl) ?_
            refine RunL.nil ?_
            refine Ends.then ?_
            refine RunC.cond_true rfl ?_
            refine RunC.seq ?_
            refine RunC.region ?_
            refine RunL.does0 rfl rfl (Does.store1 rfl rfl rfl (i := 0) rfl Tryd.sizeOf38 (rfl) (rfl)) (fun _ _ => ?_)
            refine RunL.nil ?_
            refine Ends.then ?_
            refine RunC.ret ?_
            refine Ends.then_ret ?_
            refine Ends.block_ret ?_
            refine Ends.conv (fun _ hs => hs.pureI (p := (ChkI g (4 * t + f + 1) true)) (ChkI.stop htN hf4 hno (fun h => by have := h.hi; omega) _)) ?_
            refine Ends.conv (fun _ hs => (Sym.all (l := [HL.obj b2 (.cells #[iv (errC true)] 38 (0, 0)), HL.obj b1 (.cells #[.slice base g.length cap] 33 (0, 0)), HL.obj b3 (.cells #[iv (-1), iv 0, iv 0, iv 0, iv 0] 36 (0, 0)), HL.pure (ChkI g (4 * t + f + 1) true)]) (hs.sub (HSub.pick 1 rfl (HSub.pick 1 rfl (HSub.pick 1 rfl (HSub.pick 0 rfl (HSub.pick 0 rfl (HSub.nil _)))))))).sub (HSub.pick 1 rfl (HSub.pick 0 rfl (HSub.nil _)))) (Ends.roundRetJ true rfl (HSub.refl _))
          · have h29 := of_decide_eq_false h29
            refine RunG.still rfl rfl rfl rfl (Still.fieldAddrL (off := 0) (off' := 1) rfl rfl Tryd.underlying36 rfl Tryd.sizeOf23 rfl) ?_
            refine RunG.still rfl rfl rfl rfl (Still.loads rfl rfl Tryd.isAgg23 Tryd.sizeOf23 (vs := [_, _, _, _]) rfl (fun _ hs => cells_nth (hs.at (i := 4) rfl) ⟨rfl, ⟨rfl, ⟨rfl, ⟨rfl, trivial⟩⟩⟩⟩)) ?_
            refine RunG.grows rfl rfl rfl rfl (Grows.call (vs := #[_]) rfl rfl Tryd.call5 (fun w hs => gl_Valid _ w)) (fun _ _ => ?_)
            refine RunG.still rfl rfl rfl rfl (Still.not rfl rfl) ?_
            refine RunG.still rfl rfl rfl rfl (Still.pickF rfl rfl rfl) ?_
            refine RunG.still rfl rfl rfl rfl (Still.move rfl rfl) ?_
            refine RunG.split (t := 35) rfl (fun h35 => ?_) (fun h35 => ?_)
            · skip
              refine RunG.off rfl rfl rfl rfl ?_
              refine RunG.off rfl rfl rfl rfl ?_
              refine RunG.off rfl rfl rfl rfl ?_
              refine RunG.off rfl rfl rfl rfl ?_
              refine RunG.off rfl rfl rfl rfl ?_
              refine RunG.off rfl rfl rfl rfl ?_
              refine RunG.off rfl rfl rfl rfl ?_
              refine RunG.off rfl rfl rfl rfl ?_
              refine RunG.off rfl rfl rfl rfl ?_
              refine RunG.off rfl rfl rfl rfl ?_
              refine RunG.off rfl rfl rfl rfl ?_
              refine RunG.off rfl rfl rfl rfl ?_
              refine RunG.off rfl rfl rfl rfl ?_
              refine RunG.off rfl rfl rfl rfl ?_
              refine RunG.off rfl rfl rfl rfl ?_
              refine RunG.done ?_
              show RunL _ _ _ [_] _ _
              refine RunL.still rfl rfl rfl (Still.pickT rfl rfl rfl) ?_
              refine RunL.nil ?_
              refine Ends.then ?_
              refine RunC.cond_true rfl ?_
              refine RunC.seq ?_
              refine RunC.region ?_
              refine RunL.does0 rfl rfl (Does.store1 rfl rfl rfl (i := 0) rfl Tryd.sizeOf38 (rfl) (rfl)) (fun _ _ => ?_)
              refine RunL.nil ?_
              refine Ends.then ?_
              refine RunC.ret ?_
              refine Ends.then_ret ?_
              refine Ends.block_ret ?_
              refine Ends.conv (fun _ hs => hs.pureI (p := (ChkI g (4 * t + f + 1) true)) (ChkI.stop htN hf4 hno (fun h => by rw [h.ok] at h35; cases h35) _)) ?_
              refine Ends.conv (fun _ hs => (Sym.all (l := [HL.obj b2 (.cells #[iv (errC true)] 38 (0, 0)), HL.obj b1 (.cells #[.slice base g.length cap] 33 (0, 0)), HL.obj b3 (.cells #[iv (-1), iv 0, iv 0, iv 0, iv 0] 36 (0, 0)), HL.pure (ChkI g (4 * t + f + 1) true)]) (hs.sub (HSub.pick 1 rfl (HSub.pick 1 rfl (HSub.pick 1 rfl (HSub.pick 0 rfl (HSub.pick 0 rfl (HSub.nil _)))))))).sub (HSub.pick 1 rfl (HSub.pick 0 rfl (HSub.nil _)))) (Ends.roundRetJ true rfl (HSub.refl _))
            · have hok : okP (fAt g t f).p = true := by simpa using h35
              refine RunG.still rfl rfl rfl rfl (Still.fieldAddrL (off := 0) (off' := 0) rfl rfl Tryd.underlying36 rfl Tryd.sizeOf3 rfl) ?_
              refine RunG.still rfl rfl rfl rfl (Still.load rfl rfl Tryd.isAgg3 (fun _ hs => cell_nth (hs.at (i := 4) rfl) rfl)) ?_
              refine RunG.still rfl rfl rfl rfl (Still.fieldAddrL (off := 0) (off' := 0) rfl rfl Tryd.underlying57 rfl Tryd.sizeOf3 rfl) ?_
              refine RunG.still rfl rfl rfl rfl (Still.load rfl rfl Tryd.isAgg3 (fun _ hs => cell_nth (hs.at (i := 5) rfl) rfl)) ?_
              refine RunG.still rfl rfl rfl rfl (Still.eql rfl rfl rfl) ?_
              refine RunG.still rfl rfl rfl rfl (Still.move rfl rfl) ?_
              refine RunG.split (t := 41) rfl (fun h41 => ?_) (fun h41 => ?_)
              · have h41 := of_decide_eq_true h41
                refine RunG.still rfl rfl rfl rfl (Still.fieldAddrL (off := 0) (off' := 1) rfl rfl Tryd.underlying57 rfl Tryd.sizeOf3 rfl) ?_
                refine RunG.still rfl rfl rfl rfl (Still.load rfl rfl Tryd.isAgg3 (fun _ hs => cell_nth (hs.at (i := 5) rfl) rfl)) ?_
                refine RunG.still rfl rfl rfl rfl (Still.fieldAddrL (off := 0) (off' := 1) rfl rfl Tryd.underlying36 rfl Tryd.sizeOf23 rfl) ?_
                refine RunG.still rfl rfl rfl rfl (Still.indexArrEL f rfl rfl rfl Tryd.underlying23 Tryd.sizeOf3 (rfl) (by omega)) ?_
                refine RunG.still rfl rfl rfl rfl (Still.load (v := iv ((fAt g t f).p.at f)) rfl rfl Tryd.isAgg3 (fun _ hs => cell_nth (hs.at (i := 4) rfl) (nth_p4o hf4))) ?_
                refine RunG.still rfl rfl rfl rfl (Still.fieldAddrL (off := 0) (off' := 1) rfl rfl Tryd.underlying57 rfl Tryd.sizeOf3 rfl) ?_
                refine RunG.still rfl rfl rfl rfl (Still.load rfl rfl Tryd.isAgg3 (fun _ hs => cell_nth (hs.at (i := 5) rfl) rfl)) ?_
                refine RunG.still rfl rfl rfl rfl (Still.eql rfl rfl rfl) ?_
                refine RunG.still rfl rfl rfl rfl (Still.pickT rfl rfl rfl) ?_
                refine RunG.done ?_
                show RunL _ _ _ [_] _ _
                refine RunL.still rfl rfl rfl (Still.pickF rfl rfl rfl) ?_
                refine RunL.nil ?_
                refine Ends.then ?_
                refine RunC.cond rfl (fun h51 => ?_) (fun h51 => ?_)
                · have h51 := of_decide_eq_true h51
                  refine RunC.seq ?_
                  refine RunC.region ?_
                  refine RunL.does0 rfl rfl (Does.store1 rfl rfl rfl (i := 0) rfl Tryd.sizeOf38 (rfl) (rfl)) (fun _ _ => ?_)
                  refine RunL.nil ?_
                  refine Ends.then ?_
                  refine RunC.ret ?_
                  refine Ends.then_ret ?_
                  refine Ends.block_ret ?_
                  refine Ends.conv (fun _ hs => hs.pureI (p := (ChkI g (4 * t + f + 1) true)) (ChkI.stop htN hf4 hno (fun h => h.ne ⟨h41, h51⟩) _)) ?_
                  refine Ends.conv (fun _ hs => (Sym.all (l := [HL.obj b2 (.cells #[iv (errC true)] 38 (0, 0)), HL.obj b1 (.cells #[.slice base g.length cap] 33 (0, 0)), HL.obj b3 (.cells #[iv (-1), iv 0, iv 0, iv 0, iv 0] 36 (0, 0)), HL.pure (ChkI g (4 * t + f + 1) true)]) (hs.sub (HSub.pick 1 rfl (HSub.pick 1 rfl (HSub.pick 1 rfl (HSub.pick 0 rfl (HSub.pick 0 rfl (HSub.nil _)))))))).sub (HSub.pick 1 rfl (HSub.pick 0 rfl (HSub.nil _)))) (Ends.roundRetJ true rfl (HSub.refl _))
                · have h51 := of_decide_eq_false h51
                  have hne : ¬ ((fAt g t f).tet = t ∧ (fAt g t f).p.at f = f) := fun e => h51 e.2
                  refine RunC.skip ?_
                  refine Ends.then ?_
                  refine RunC.seq ?_
                  refine RunC.draw 18 (.still 0 (.still 1 (.still 2 (.still 3 (.still 4 (.still 5 (.still 6 (.still 7 (.still 8 (.still 9 (.still 10 (.still 11 (.still 12 (.still 13 (.still 14 (.still 15 (.one 16 (.still 17 .done)))))))))))))))))) (by kernel_rfl) (by kernel_rfl) ?_
                  refine RunG.still rfl rfl rfl rfl (Still.fieldAddrL (off := 0) (off' := 0) rfl rfl Tryd.underlying33 rfl Tryd.sizeOf31 rfl) ?_
                  refine RunG.still rfl rfl rfl rfl (Still.load rfl rfl Tryd.isAgg31 (fun _ hs => cell_nth (hs.at (i := 1) rfl) rfl)) ?_
                  refine RunG.still rfl rfl rfl rfl (Still.fieldAddrL (off := 0) (off' := 0) rfl rfl Tryd.underlying36 rfl Tryd.sizeOf3 rfl) ?_
                  refine RunG.still rfl rfl rfl rfl (Still.load rfl rfl Tryd.isAgg3 (fun _ hs => cell_nth (hs.at (i := 4) rfl) rfl)) ?_
                  refine RunG.still rfl rfl rfl rfl (Still.fieldAddrL (off := 0) (off' := 1) rfl rfl Tryd.underlying57 rfl Tryd.sizeOf3 rfl) ?_
                  refine RunG.still rfl rfl rfl rfl (Still.load rfl rfl Tryd.isAgg3 (fun _ hs => cell_nth (hs.at (i := 5) rfl) rfl)) ?_
                  refine RunG.still rfl rfl rfl rfl (Still.fieldAddrL (off := 0) (off' := 1) rfl rfl Tryd.underlying36 rfl Tryd.sizeOf23 rfl) ?_
                  refine RunG.still rfl rfl rfl rfl (Still.indexArrEL f rfl rfl rfl Tryd.underlying23 Tryd.sizeOf3 (rfl) (by omega)) ?_
                  refine RunG.still rfl rfl rfl rfl (Still.load (v := iv ((fAt g t f).p.at f)) rfl rfl Tryd.isAgg3 (fun _ hs => cell_nth (hs.at (i := 4) rfl) (nth_p4o hf4))) ?_
                  have hpf := okP_at hok f
                  refine RunG.still rfl rfl rfl rfl (Still.indexSliceE (fAt g t f).tet.toNat rfl rfl rfl Tryd.underlying31 Tryd.sizeOf37 (hg.base (by omega)) (by omega) (by omega)) ?_
                  refine RunG.still rfl rfl rfl rfl (Still.indexArrE ((fAt g t f).p.at f).toNat rfl rfl rfl Tryd.underlying37 Tryd.sizeOf36 (by omega) (by omega)) ?_
                  refine RunG.still rfl rfl rfl rfl (Still.loads rfl rfl Tryd.isAgg36 Tryd.sizeOf36 (vs := [iv (fAt g (fAt g t f).tet.toNat ((fAt g t f).p.at f).toNat).tet, iv (fAt g (fAt g t f).tet.toNat ((fAt g t f).p.at f).toNat).p.a0, iv (fAt g (fAt g t f).tet.toNat ((fAt g t f).p.at f).toNat).p.a1, iv (fAt g (fAt g t f).tet.toNat ((fAt g t f).p.at f).toNat).p.a2, iv (fAt g (fAt g t f).tet.toNat ((fAt g t f).p.at f).toNat).p.a3]) rfl (fun _ hs => (hg.old (hs.outer hO hS)).face (tAt_get (by omega)) (by omega))) ?_
                  refine RunG.still rfl rfl rfl rfl (Still.fieldAddrL (off := 0) (off' := 0) rfl rfl Tryd.underlying57 rfl Tryd.sizeOf3 rfl) ?_
                  refine RunG.still rfl rfl rfl rfl (Still.load rfl rfl Tryd.isAgg3 (fun _ hs => cell_nth (hs.at (i := 5) rfl) rfl)) ?_
                  refine RunG.still rfl rfl rfl rfl (Still.fieldAddrL (off := 0) (off' := 1) rfl rfl Tryd.underlying36 rfl Tryd.sizeOf23 rfl) ?_
                  refine RunG.still rfl rfl rfl rfl (Still.loads rfl rfl Tryd.isAgg23 Tryd.sizeOf23 (vs := [_, _, _, _]) rfl (fun _ hs => cells_nth (hs.at (i := 4) rfl) ⟨rfl, ⟨rfl, ⟨rfl, ⟨rfl, trivial⟩⟩⟩⟩)) ?_
                  refine RunG.grows rfl rfl rfl rfl (Grows.call (vs := #[_]) rfl rfl Tryd.call24 (fun w hs => gl_inverse _ w hok)) (fun _ _ => ?_)
                  refine RunG.still rfl rfl rfl rfl (Still.build_1_4 (fun x0_0 x1_0 x1_1 x1_2 x1_3 => .agg #[x0_0, x1_0, x1_1, x1_2, x1_3]) rfl rfl rfl (fun _ => by kernel_rfl)) ?_
                  refine RunG.done ?_
                  show RunL _ _ _ [_] _ _
                  refine RunL.still rfl rfl rfl (Still.neqAgg rfl rfl rfl Tryd.eqGuardType36 (fun _ => eqF _ _ _ _ _ _ _ _ _ _ _ _)) ?_
                  refine RunL.nil ?_
                  refine Ends.then ?_
                  refine RunC.cond rfl (fun h70 => ?_) (fun h70 => ?_)
                  · skip
                    refine RunC.seq ?_
                    refine RunC.region ?_
                    refine RunL.does0 rfl rfl (Does.store1 rfl rfl rfl (i := 0) rfl Tryd.sizeOf38 (rfl) (rfl)) (fun _ _ => ?_)
                    refine RunL.nil ?_
                    refine Ends.then ?_
                    refine RunC.ret ?_
                    refine Ends.block_ret ?_
                    refine Ends.conv (fun _ hs => hs.pureI (p := (ChkI g (4 * t + f + 1) true)) (ChkI.stop htN hf4 hno (fun h => bnd_t h70 (fc_eq.2 h.back)) _)) ?_
                    refine Ends.conv (fun _ hs => (Sym.all (l := [HL.obj b2 (.cells #[iv (errC true)] 38 (0, 0)), HL.obj b1 (.cells #[.slice base g.length cap] 33 (0, 0)), HL.obj b3 (.cells #[iv (-1), iv 0, iv 0, iv 0, iv 0] 36 (0, 0)), HL.pure (ChkI g (4 * t + f + 1) true)]) (hs.sub (HSub.pick 1 rfl (HSub.pick 1 rfl (HSub.pick 1 rfl (HSub.pick 0 rfl (HSub.pick 0 rfl (HSub.nil _)))))))).sub (HSub.pick 1 rfl (HSub.pick 0 rfl (HSub.nil _)))) (Ends.roundRetJ true rfl (HSub.refl _))
                  · skip
                    refine RunC.skip ?_
                    refine Ends.block ?_
                    refine Ends.conv (fun _ hs => hs.pureI (p := (ChkI g (4 * t + f + 1) false)) (ChkI.next hf4 hI (faceOk_iff.2 (.inr ⟨by omega, by omega, hok, hne, fc_eq.1 (bnd_f h70)⟩)))) ?_
                    refine Ends.conv (fun _ hs => (Sym.all (l := [HL.obj b2 (.cells #[iv (errC false)] 38 (0, 0)), HL.obj b1 (.cells #[.slice base g.length cap] 33 (0, 0)), HL.obj b3 (.cells #[iv (-1), iv 0, iv 0, iv 0, iv 0] 36 (0, 0)), HL.pure (ChkI g (4 * t + f + 1) false)]) (hs.sub (HSub.pick 1 rfl (HSub.pick 1 rfl (HSub.pick 1 rfl (HSub.pick 0 rfl (HSub.pick 0 rfl (HSub.nil _)))))))).sub (HSub.pick 1 rfl (HSub.pick 0 rfl (HSub.nil _)))) (Ends.roundEndJ false rfl (HSub.refl _))
              · have h41 := of_decide_eq_false h41
                have hne : ¬ ((fAt g t f).tet = t ∧ (fAt g t f).p.at f = f) := fun e => h41 e.1
                refine RunG.off rfl rfl rfl rfl ?_
                refine RunG.off rfl rfl rfl rfl ?_
                refine RunG.off rfl rfl rfl rfl ?_
                refine RunG.off rfl rfl rfl rfl ?_
                refine RunG.off rfl rfl rfl rfl ?_
                refine RunG.off rfl rfl rfl rfl ?_
                refine RunG.off rfl rfl rfl rfl ?_
                refine RunG.off rfl rfl rfl rfl ?_
                refine RunG.still rfl rfl rfl rfl (Still.pickF rfl rfl rfl) ?_
                refine RunG.done ?_
                show RunL _ _ _ [_] _ _
                refine RunL.still rfl rfl rfl (Still.pickF rfl rfl rfl) ?_
                refine RunL.nil ?_
                refine Ends.then ?_
                refine RunC.cond_false rfl ?_
                refine RunC.skip ?_
                refine Ends.then ?_
                refine RunC.seq ?_
                refine RunC.draw 18 (.still 0 (.still 1 (.still 2 (.still 3 (.still 4 (.still 5 (.still 6 (.still 7 (.still 8 (.still 9 (.still 10 (.still 11 (.still 12 (.still 13 (.still 14 (.still 15 (.one 16 (.still 17 .done)))))))))))))))))) (by kernel_rfl) (by kernel_rfl) ?_
                refine RunG.still rfl rfl rfl rfl (Still.fieldAddrL (off := 0) (off' := 0) rfl rfl Tryd.underlying33 rfl Tryd.sizeOf31 rfl) ?_
                refine RunG.still rfl rfl rfl rfl (Still.load rfl rfl Tryd.isAgg31 (fun _ hs => cell_nth (hs.at (i := 1) rfl) rfl)) ?_
                refine RunG.still rfl rfl rfl rfl (Still.fieldAddrL (off := 0) (off' := 0) rfl rfl Tryd.underlying36 rfl Tryd.sizeOf3 rfl) ?_
                refine RunG.still rfl rfl rfl rfl (Still.load rfl rfl Tryd.isAgg3 (fun _ hs => cell_nth (hs.at (i := 4) rfl) rfl)) ?_
                refine RunG.still rfl rfl rfl rfl (Still.fieldAddrL (off := 0) (off' := 1) rfl rfl Tryd.underlying57 rfl Tryd.sizeOf3 rfl) ?_
                refine RunG.still rfl rfl rfl rfl (Still.load rfl rfl Tryd.isAgg3 (fun _ hs => cell_nth (hs.at (i := 5) rfl) rfl)) ?_
                refine RunG.still rfl rfl rfl rfl (Still.fieldAddrL (off := 0) (off' := 1) rfl rfl Tryd.underlying36 rfl Tryd.sizeOf23 rfl) ?_
                refine RunG.still rfl rfl rfl rfl (Still.indexArrEL f rfl rfl rfl Tryd.underlying23 Tryd.sizeOf3 (rfl) (by omega)) ?_
                refine RunG.still rfl rfl rfl rfl (Still.load (v := iv ((fAt g t f).p.at f)) rfl rfl Tryd.isAgg3 (fun _ hs => cell_nth (hs.at (i := 4) rfl) (nth_p4o hf4))) ?_
                have hpf := okP_at hok f
                refine RunG.still rfl rfl rfl rfl (Still.indexSliceE (fAt g t f).tet.toNat rfl rfl rfl Tryd.underlying31 Tryd.sizeOf37 (hg.base (by omega)) (by omega) (by omega)) ?_
                refine RunG.still rfl rfl rfl rfl (Still.indexArrE ((fAt g t f).p.at f).toNat rfl rfl rfl Tryd.underlying37 Tryd.sizeOf36 (by omega) (by omega)) ?_
                refine RunG.still rfl rfl rfl rfl (Still.loads rfl rfl Tryd.isAgg36 Tryd.sizeOf36 (vs := [iv (fAt g (fAt g t f).tet.toNat ((fAt g t f).p.at f).toNat).tet, iv (fAt g (fAt g t f).tet.toNat ((fAt g t f).p.at f).toNat).p.a0, iv (fAt g (fAt g t f).tet.toNat ((fAt g t f).p.at f).toNat).p.a1, iv (fAt g (fAt g t f).tet.toNat ((fAt g t f).p.at f).toNat).p.a2, iv (fAt g (fAt g t f).tet.toNat ((fAt g t f).p.at f).toNat).p.a3]) rfl (fun _ hs => (hg.old (hs.outer hO hS)).face (tAt_get (by omega)) (by omega))) ?_
                refine RunG.still rfl rfl rfl rfl (Still.fieldAddrL (off := 0) (off' := 0) rfl rfl Tryd.underlying57 rfl Tryd.sizeOf3 rfl) ?_
                refine RunG.still rfl rfl rfl rfl (Still.load rfl rfl Tryd.isAgg3 (fun _ hs => cell_nth (hs.at (i := 5) rfl) rfl)) ?_
                refine RunG.still rfl rfl rfl rfl (Still.fieldAddrL (off := 0) (off' := 1) rfl rfl Tryd.underlying36 rfl Tryd.sizeOf23 rfl) ?_
                refine RunG.still rfl rfl rfl rfl (Still.loads rfl rfl Tryd.isAgg23 Tryd.sizeOf23 (vs := [_, _, _, _]) rfl (fun _ hs => cells_nth (hs.at (i := 4) rfl) ⟨rfl, ⟨rfl, ⟨rfl, ⟨rfl, trivial⟩⟩⟩⟩)) ?_
                refine RunG.grows rfl rfl rfl rfl (Grows.call (vs := #[_]) rfl rfl Tryd.call24 (fun w hs => gl_inverse _ w hok)) (fun _ _ => ?_)
                refine RunG.still rfl rfl rfl rfl (Still.build_1_4 (fun x0_0 x1_0 x1_1 x1_2 x1_3 => .agg #[x0_0, x1_0, x1_1, x1_2, x1_3]) rfl rfl rfl (fun _ => by kernel_rfl)) ?_
                refine RunG.done ?_
                show RunL _ _ _ [_] _ _
                refine RunL.still rfl rfl rfl (Still.neqAgg rfl rfl rfl Tryd.eqGuardType36 (fun _ => eqF _ _ _ _ _ _ _ _ _ _ _ _)) ?_
                refine RunL.nil ?_
                refine Ends.then ?_
                refine RunC.cond rfl (fun h70 => ?_) (fun h70 => ?_)
                · skip
                  refine RunC.seq ?_
                  refine RunC.region ?_
                  refine RunL.does0 rfl rfl (Does.store1 rfl rfl rfl (i := 0) rfl Tryd.sizeOf38 (rfl) (rfl)) (fun _ _ => ?_)
                  refine RunL.nil ?_
                  refine Ends.then ?_
                  refine RunC.ret ?_
                  refine Ends.block_ret ?_
                  refine Ends.conv (fun _ hs => hs.pureI (p := (ChkI g (4 * t + f + 1) true)) (ChkI.stop htN hf4 hno (fun h => bnd_t h70 (fc_eq.2 h.back)) _)) ?_
                  refine Ends.conv (fun _ hs => (Sym.all (l := [HL.obj b2 (.cells #[iv (errC true)] 38 (0, 0)), HL.obj b1 (.cells #[.slice base g.length cap] 33 (0, 0)), HL.obj b3 (.cells #[iv (-1), iv 0, iv 0, iv 0, iv 0] 36 (0, 0)), HL.pure (ChkI g (4 * t + f + 1) true)]) (hs.sub (HSub.pick 1 rfl (HSub.pick 1 rfl (HSub.pick 1 rfl (HSub.pick 0 rfl (HSub.pick 0 rfl (HSub.nil _)))))))).sub (HSub.pick 1 rfl (HSub.pick 0 rfl (HSub.nil _)))) (Ends.roundRetJ true rfl (HSub.refl _))
                · skip
                  refine RunC.skip ?_
                  refine Ends.block ?_
                  refine Ends.conv (fun _ hs => hs.pureI (p := (ChkI g (4 * t + f + 1) false)) (ChkI.next hf4 hI (faceOk_iff.2 (.inr ⟨by omega, by omega, hok, hne, fc_eq.1 (bnd_f h70)⟩)))) ?_
                  refine Ends.conv (fun _ hs => (Sym.all (l := [HL.obj b2 (.cells #[iv (errC false)] 38 (0, 0)), HL.obj b1 (.cells #[.slice base g.length cap] 33 (0, 0)), HL.obj b3 (.cells #[iv (-1), iv 0, iv 0, iv 0, iv 0] 36 (0, 0)), HL.pure (ChkI g (4 * t + f + 1) false)]) (hs.sub (HSub.pick 1 rfl (HSub.pick 1 rfl (HSub.pick 1 rfl (HSub.pick 0 rfl (HSub.pick 0 rfl (HSub.nil _)))))))).sub (HSub.pick 1 rfl (HSub.pick 0 rfl (HSub.nil _)))) (Ends.roundEndJ false rfl (HSub.refl _))
    · intro l J w hs hy
      exact gl_faces1 base A cap g l gb _ _ J w rfl (hs.holds _ (List.mem_cons_self ..)) hs.ltK (fun w1 ho => hg.old (hs.oldK ho)) (fun w1 ho => cell_nth (hs.keep (i := 0) rfl ho) rfl) (fun t f s ht hf hj w1 ho hh hl => by have h := hy (4 * t + f) s (by omega) hj w1 ho hh hl; rwa [show (4 * t + f) / 4 = t by omega, show (4 * t + f) % 4 = f by omega] at h)
    · intro D j s hjN
      cases s
      · change Go.V.Ends _ Exit.normal _ _ _
        refine Ends.conv (fun _ hs => Sym.marks_push (hs.sub (HSub.pick 1 rfl (HSub.pick 2 rfl (HSub.pick 0 rfl (HSub.pick 0 rfl (HSub.nil _))))))) ?_
        refine Ends.conv (fun _ hs => Sym.unall (hs.sub (HSub.pick 1 rfl (HSub.pick 0 rfl (HSub.pick 0 rfl (HSub.nil _)))))) ?_
        refine Ends.know (fun _ hs => hs.at (i := 3) rfl) (fun I => ?_)
        refine Ends.conv (fun _ hs => hs.sub (HSub.pick 0 rfl (HSub.pick 0 rfl (HSub.pick 0 rfl (HSub.pick 1 rfl (HSub.pick 1 rfl (HSub.nil _))))))) ?_
        have hgN := hjN rfl
        subst hgN
        refine Ends.block ?_
        refine Ends.then ?_
        refine RunC.seq ?_
        refine RunC.region ?_
        refine RunL.does0 rfl rfl (Does.store1 rfl rfl rfl (i := 0) rfl Tryd.sizeOf38 (rfl) (rfl)) (fun _ _ => ?_)
        refine RunL.nil ?_
        refine Ends.then ?_
        refine RunC.ret ?_
        refine Ends.leaveM (Ds := [D]) (H := [_]) (.inl rfl) (HSub.pick 3 rfl (HSub.pick 0 rfl (HSub.nil _))) (fun _ _ ok => ok.results1 Tryd.results22 (Holds.cell rfl (fun _ hs => load_one Tryd.isAgg38 (cell_nth (hs.at (i := 0) rfl) rfl)))) (fun w2 hs => ?_)
        exact Ret.intro () trivial (by rw [ChkI.done (by omega) I]) (HSub.nil _) hs
      · change RunC _ Code.ret _ _ _
        refine RunC.conv (fun _ hs => Sym.marks_push (hs.sub (HSub.pick 1 rfl (HSub.pick 2 rfl (HSub.pick 0 rfl (HSub.pick 0 rfl (HSub.nil _))))))) ?_
        refine RunC.conv (fun _ hs => Sym.unall (hs.sub (HSub.pick 1 rfl (HSub.pick 0 rfl (HSub.pick 0 rfl (HSub.nil _)))))) ?_
        refine RunC.know (fun _ hs => hs.at (i := 3) rfl) (fun I => ?_)
        refine RunC.conv (fun _ hs => hs.sub (HSub.pick 0 rfl (HSub.pick 0 rfl (HSub.pick 0 rfl (HSub.pick 1 rfl (HSub.pick 1 rfl (HSub.nil _))))))) ?_
        refine RunC.ret ?_
        refine Ends.block_ret ?_
        refine Ends.then_ret ?_
        refine Ends.leaveM (Ds := [D]) (H := [_]) (.inl rfl) (HSub.pick 3 rfl (HSub.pick 0 rfl (HSub.nil _))) (fun _ _ ok => ok.results1 Tryd.results22 (Holds.cell rfl (fun _ hs => load_one Tryd.isAgg38 (cell_nth (hs.at (i := 0) rfl) rfl)))) (fun w3 hs => ?_)
        exact Ret.intro () trivial (by rw [chkG_bad I]; rfl) (HSub.nil _) hs

theorem eqP (d : Nat) (a b c f a' b' c' f' : Int) (w : World) : (Op.equalIn (d + 2) 23 (.agg #[iv a, iv b, iv c, iv f]) (.agg #[iv a', iv b', iv c', iv f'])).run Tryd.prog w = .ok (decide (a = a' ∧ b = b' ∧ c = c' ∧ f = f')) w :=
  eq_arr4 Tryd.underlying23 Tryd.underlying3 (by kernel_rfl : Tryd.prog.info? 3 = some Tryd.t3) (by kernel_rfl) d a b c f a' b' c' f' w

end Go.Proofs
/- Diagrams as data, part i: texts. -/
namespace Go.V
open Go
def numS (n : Int) : ByteArray := ⟨(Lib.decDigits n.toNat).toArray⟩
def semiS : ByteArray := ⟨#[59, 32]⟩
def barS : ByteArray := ⟨#[32, 124, 32]⟩
def strs (l : List ByteArray) : List Value := l.map Value.string
theorem strs_snoc (l : List ByteArray) (s : ByteArray) : strs l ++ [.string s] = strs (l ++ [s]) := by simp [strs]
theorem lens_le {k : Nat} : ∀ {l : List ByteArray}, (∀ s ∈ l, s.size ≤ k) → Lib.lens (l.map (·.data.toList)) ≤ k * l.length
  | [], _ => Nat.zero_le _
  | s :: r, h => by
    have h1 := lens_le (l := r) (fun x hx => h x (List.mem_cons_of_mem _ hx))
    have h2 := h s (List.mem_cons_self ..)
    have h3 : s.data.toList.length = s.size := Array.length_toList
    simp only [Lib.lens, List.map_cons, List.sum_cons, List.length_cons, h3] at h1 ⊢
    rw [Nat.mul_add]; omega
end Go.V
/- Diagrams as data, part j: the chapter's examples. -/
namespace Go.V
open Go
end Go.V
/- Plain laws, part k: how many components there are; each place lies in exactly one region. -/
namespace Go.V
open Go
end Go.V
/- Numbers as text. -/
namespace Go.V
open Go
theorem decDigits_le (u : Nat) : (Lib.decDigits u).length ≤ u + 1 := by
  induction u using Nat.strongRecOn with
  | ind u ih =>
    rw [Lib.decDigits]
    split
    · simp
    · have := ih (u / 10) (by omega)
      simp only [List.length_append, List.length_singleton]; omega
theorem numS_le (n : Int) : (numS n).size ≤ n.toNat + 1 := by
  show (Lib.decDigits n.toNat).toArray.size ≤ _
  simpa using decDigits_le n.toNat
end Go.V
/- Texts of diagrams: what the reference reads (positions in a text). -/
namespace Go.V
open Go
def byteAt (t : ByteArray) (p : Nat) : Nat := (t.data.toList.getD p 0).toNat
def isDig (t : ByteArray) (p : Nat) : Bool := decide (p < t.size ∧ 48 ≤ byteAt t p ∧ byteAt t p ≤ 57)
/-- Digits from p on, at most f of them; n: what those before spell. -/
def runD (t : ByteArray) : Nat → Nat → Nat → Nat × Nat
  | 0, p, n => (p, n)
  | f + 1, p, n => if isDig t p = true then runD t f (p + 1) (10 * n + byteAt t p - 48) else (p, n)
def numP (t : ByteArray) (p : Nat) : Nat × Nat := runD t 5 p 0
def numOk (t : ByteArray) (p : Nat) : Bool := decide (¬ ((numP t p).1 = p) ∧ numS ((numP t p).2 : Nat) = t.extract p (numP t p).1 ∧ (numP t p).2 ≤ 1000)
def takesB (t : ByteArray) (p : Nat) (s : ByteArray) : Bool := decide (p + s.size ≤ t.size ∧ t.extract p (p + s.size) = s)
def takeP (t : ByteArray) (p : Nat) (s : ByteArray) : Nat := if takesB t p s = true then p + s.size else p
theorem byte_get {t : ByteArray} {p : Nat} (h : p < t.size) : t[p]? = some (UInt8.ofNat (byteAt t p)) := by
  have h1 : p < t.data.toList.length := by rw [Array.length_toList]; exact h
  have : t[p]? = t.data.toList[p]? := by
    rw [Array.getElem?_toList]
    show (if _ : p < t.size then some t[p] else none) = t.data[p]?
    rw [dif_pos h, Array.getElem?_eq_getElem (show p < t.data.size from h)]
    rfl
  rw [this, byteAt, List.getD_eq_getElem?_getD, List.getElem?_eq_getElem h1]
  simp
theorem byteAt_lt (t : ByteArray) (p : Nat) : byteAt t p < 256 := UInt8.toNat_lt _
theorem byteAt_nat (t : ByteArray) (p : Nat) : (UInt8.ofNat (byteAt t p)).toNat = byteAt t p := by simp [byteAt]
theorem isDig_true {t : ByteArray} {p : Nat} (h : isDig t p = true) : p < t.size ∧ 48 ≤ byteAt t p ∧ byteAt t p ≤ 57 := of_decide_eq_true h
theorem runD_small (t : ByteArray) : ∀ (f p n k : Nat), n < 10 ^ k → (runD t f p n).2 < 10 ^ (k + f)
  | 0, p, n, k, h => h
  | f + 1, p, n, k, h => by
    rw [runD]
    split
    · rename_i hd
      have h1 := isDig_true hd
      have := runD_small t f (p + 1) (10 * n + byteAt t p - 48) (k + 1) (by rw [Nat.pow_succ]; omega)
      rwa [show k + (f + 1) = k + 1 + f by omega]
    · exact Nat.lt_of_lt_of_le h (Nat.pow_le_pow_right (by omega) (by omega))
theorem numP_small (t : ByteArray) (p : Nat) : (numP t p).2 < 100000 := runD_small t 5 p 0 0 (by decide)
abbrev spS : ByteArray := ⟨#[32]⟩
abbrev plusS : ByteArray := ⟨#[43]⟩
abbrev minusS : ByteArray := ⟨#[45]⟩
structure Rd where
  p : Nat
  ok : Bool
  l : List Int
/-- One arc's number of a crossing. -/
def arcR (t : ByteArray) (s : Rd) : Rd :=
  let ok1 := s.ok && takesB t s.p spS
  let p1 := if s.ok then takeP t s.p spS else s.p
  ⟨(numP t p1).1, ok1 && numOk t p1, s.l ++ [((numP t p1).2 : Int)]⟩
def arcsR (t : ByteArray) (p : Nat) : Nat → Rd
  | 0 => ⟨p, true, []⟩
  | k + 1 => arcR t (arcsR t p k)
def cr4 (l : List Int) (s : Int) : Cr := ⟨l.getD 0 0, l.getD 1 0, l.getD 2 0, l.getD 3 0, s⟩
theorem arcR_t {t : ByteArray} {s : Rd} (h : s.ok = true) : arcR t s = ⟨(numP t (takeP t s.p spS)).1, takesB t s.p spS && numOk t (takeP t s.p spS), s.l ++ [((numP t (takeP t s.p spS)).2 : Int)]⟩ := by
  rw [arcR, h]; rfl
theorem arcR_f {t : ByteArray} {s : Rd} (h : s.ok = false) : arcR t s = ⟨(numP t s.p).1, false, s.l ++ [((numP t s.p).2 : Int)]⟩ := by
  rw [arcR, h]; rfl
theorem arcR_l (t : ByteArray) (s : Rd) : ∃ n : Nat, n < 100000 ∧ (arcR t s).l = s.l ++ [(n : Int)] := by
  cases ho : s.ok
  · rw [arcR_f ho]; exact ⟨_, numP_small _ _, rfl⟩
  · rw [arcR_t ho]; exact ⟨_, numP_small _ _, rfl⟩
theorem arcsR_small (t : ByteArray) (p : Nat) : ∀ k, ∀ x ∈ (arcsR t p k).l, 0 ≤ x ∧ x < 100000
  | 0, x, hx => by cases hx
  | k + 1, x, hx => by
    obtain ⟨n, hn, h⟩ := arcR_l t (arcsR t p k)
    rw [arcsR, h] at hx
    rcases List.mem_append.1 hx with h1 | h1
    · exact arcsR_small t p k x h1
    · obtain rfl := List.mem_singleton.1 h1; omega
structure Res where
  xs : List Cr
  p : Nat
  ok : Bool
def loopR (t : ByteArray) : Nat → List Cr → Nat → Res
  | 0, xs, p => ⟨xs, p, false⟩
  | f + 1, xs, p =>
    if takesB t p plusS = false ∧ takesB t p minusS = false then ⟨xs, p, decide (xs.length = 0)⟩
    else
      let s : Int := if takesB t p plusS = true then 1 else -1
      let q := arcsR t (p + 1) 4
      let ys := xs ++ [cr4 q.l s]
      if takesB t q.p semiS = true then (if q.ok = true then loopR t f ys (q.p + 2) else ⟨ys, q.p + 2, false⟩)
      else ⟨ys, if q.ok = true then takeP t q.p barS else q.p, q.ok && takesB t q.p barS⟩
theorem getD_small {l : List Int} (h : ∀ x ∈ l, 0 ≤ x ∧ x < 100000) (i : Nat) : 0 ≤ l.getD i 0 ∧ l.getD i 0 < 100000 := by
  rw [List.getD_eq_getElem?_getD]
  cases hi : l[i]? with
  | none => simp
  | some x => exact h x (List.mem_of_getElem? hi)
theorem cr4_wf {t : ByteArray} {p : Nat} {s : Int} (hs : s = 1 ∨ s = -1) : (cr4 (arcsR t p 4).l s).Wf := by
  have h := fun i => getD_small (arcsR_small t p 4) i
  have h0 := h 0; have h1 := h 1; have h2 := h 2; have h3 := h 3
  constructor <;> simp only [cr4, In64] <;> omega
abbrev rdR (t : ByteArray) : Res := loopR t (t.size + 1) [] 0
def sgnOk (t : ByteArray) (p : Nat) (sg : Int) : Prop := ¬ (takesB t p plusS = false ∧ takesB t p minusS = false) ∧ sg = (if takesB t p plusS = true then 1 else -1)
theorem loopR_go {t : ByteArray} {f : Nat} {xs : List Cr} {p : Nat} {sg : Int} (h : sgnOk t p sg) : loopR t (f + 1) xs p = if takesB t (arcsR t (p + 1) 4).p semiS = true then (if (arcsR t (p + 1) 4).ok = true then loopR t f (xs ++ [cr4 (arcsR t (p + 1) 4).l sg]) ((arcsR t (p + 1) 4).p + 2) else ⟨xs ++ [cr4 (arcsR t (p + 1) 4).l sg], (arcsR t (p + 1) 4).p + 2, false⟩) else ⟨xs ++ [cr4 (arcsR t (p + 1) 4).l sg], if (arcsR t (p + 1) 4).ok = true then takeP t (arcsR t (p + 1) 4).p barS else (arcsR t (p + 1) 4).p, (arcsR t (p + 1) 4).ok && takesB t (arcsR t (p + 1) 4).p barS⟩ := by
  rw [loopR, if_neg h.1, h.2]
theorem takeP_1 {t : ByteArray} {p k : Nat} {s : ByteArray} (h : takesB t p s = true) (hk : s.size = k) : takeP t p s = p + k ∧ p + k ≤ t.size := by subst hk; exact ⟨if_pos h, (of_decide_eq_true h).1⟩
theorem wf_snoc {xs : List Cr} {x : Cr} (h : ∀ y ∈ xs, y.Wf) (hx : x.Wf) : ∀ y ∈ xs ++ [x], y.Wf := fun y hy => by
  rcases List.mem_append.1 hy with h1 | h1
  · exact h y h1
  · obtain rfl := List.mem_singleton.1 h1; exact hx
/-- The reference's loop. -/
def PI (t : ByteArray) (xs : List Cr) (p : Nat) (ok : Bool) (f : Nat) : Prop :=
  (ok = true → loopR t f xs p = rdR t ∧ t.size < f + p) ∧ (ok = false → rdR t = ⟨xs, p, false⟩) ∧ p ≤ t.size ∧ (∀ x ∈ xs, x.Wf) ∧ xs.length ≤ p
theorem PI.start (t : ByteArray) : PI t [] 0 true (t.size + 1) := ⟨fun _ => ⟨rfl, by omega⟩, fun h => Bool.noConfusion h, by omega, fun x hx => absurd hx List.not_mem_nil, Nat.le_refl _⟩
theorem PI.fuel {t : ByteArray} {xs : List Cr} {p f : Nat} (h : PI t xs p true f) : 0 < f := by
  have h1 := (h.1 rfl).2
  have h2 := h.2.2.1
  omega
theorem PI.next {t : ByteArray} {xs : List Cr} {p f : Nat} {sg : Int} (h : PI t xs p true (f + 1)) (hg : sgnOk t p sg) (h1 : takesB t (arcsR t (p + 1) 4).p semiS = true) (hk : p + 1 ≤ (arcsR t (p + 1) 4).p ∧ (arcsR t (p + 1) 4).p ≤ t.size) (hs : sg = 1 ∨ sg = -1) :
    PI t (xs ++ [cr4 (arcsR t (p + 1) 4).l sg]) (takeP t (arcsR t (p + 1) 4).p semiS) (arcsR t (p + 1) 4).ok f := by
  have e := takeP_1 h1 (k := 2) rfl
  have h0 := h.1 rfl
  have hb := h.2.2.2.2
  rw [e.1]
  rw [loopR_go hg, if_pos h1] at h0
  refine ⟨fun ho => ?_, fun ho => ?_, e.2, wf_snoc h.2.2.2.1 (cr4_wf hs), by rw [List.length_append]; show xs.length + 1 ≤ _; omega⟩
  · rw [if_pos ho] at h0; exact ⟨h0.1, by omega⟩
  · rw [if_neg (by rw [ho]; exact Bool.false_ne_true)] at h0; exact h0.1.symm
theorem own_oneCell {w : World} {e k n : Nat} {v : Value} {xs : List Value} (h : w.ownsRow 0 e k v n xs) : v.oneCell' = true := by
  obtain ⟨b, c, hv, _⟩ := own_shape h
  rw [hv]; rfl
theorem Still.indexStrB {C : Cx} {F : Fr} {L : List HL} {o : Oper} {t : TypeId} {x ix : Operand} {s : ByteArray} {k : IntKind} (i : Nat) (ho : o.op = .index t x ix) (hx : F.ev x = some (.string s)) (hi : F.ev ix = some (.int k (i : Int)))
    (ht : C.P.underlying t = some .string) (hb : i < s.size) : Still C o F L (.int .u8 (byteAt s i : Nat)) := by
  have := Still.indexStr (C := C) (L := L) ho hx hi ht (by omega) (by rw [show ((i : Int).toNat) = i by omega]; exact byte_get hb)
  rwa [byteAt_nat] at this
theorem wrap_i64 {k : Int} (h0 : -9223372036854775808 ≤ k) (hk : k < 9223372036854775808) : IntKind.i64.wrap k = k := by
  simp [IntKind.wrap, IntKind.bits, IntKind.signed]; omega
end Go.V
/- Texts of diagrams: sizes, joins. -/
namespace Go.V
open Go
theorem numS_mid {n : Int} (h0 : 0 ≤ n) (h : n ≤ 1000) : (numS n).size ≤ 1001 := by have := numS_le n; omega
end Go.V
/- Texts of diagrams: what the program reads. -/
namespace Go.V
open Go
/-- The text of a number from 0 to 1000. -/
def Num (s : ByteArray) (v : Int) : Prop := 0 ≤ v ∧ v ≤ 1000 ∧ s = numS v
theorem Num.size {s : ByteArray} {v : Int} (h : Num s v) : s.size ≤ 1001 := by rw [h.2.2]; exact numS_mid h.1 h.2.1
theorem dig_byte {k : Nat} (h : k < 10) : (UInt8.ofNat (48 + k)).toNat = 48 + k := by rw [UInt8.toNat_ofNat']; omega
theorem parse_dig (u acc : Nat) (h : acc * 10 ^ (Lib.decDigits u).length + u < 1844674407370955162) (l : List UInt8) : Lib.parseUint10 acc (Lib.decDigits u ++ l) = Lib.parseUint10 (acc * 10 ^ (Lib.decDigits u).length + u) l := by
  induction u using Nat.strongRecOn generalizing acc l with
  | ind u ih =>
    by_cases hu : u < 10
    · rw [Lib.decDigits_one hu] at h ⊢
      simp only [List.length_singleton, Nat.pow_one, List.cons_append, List.nil_append] at h ⊢
      have hb := dig_byte hu
      rw [Lib.parseUint10, if_pos (by omega), if_neg (by omega), if_neg (by omega), hb]
      congr 1; omega
    · have e : Lib.decDigits u = Lib.decDigits (u / 10) ++ [UInt8.ofNat (48 + u % 10)] := by rw [Lib.decDigits, dif_neg hu]
      have hl : (Lib.decDigits u).length = (Lib.decDigits (u / 10)).length + 1 := by rw [e]; simp
      rw [hl, Nat.pow_succ] at h
      rw [hl, Nat.pow_succ, e, List.append_assoc, ih (u / 10) (by omega) acc (by
        have h1 : acc * (10 ^ (Lib.decDigits (u / 10)).length * 10) = acc * 10 ^ (Lib.decDigits (u / 10)).length * 10 := by rw [Nat.mul_assoc]
        omega)]
      have hb := dig_byte (Nat.mod_lt u (show 0 < 10 by omega))
      have h1 : acc * (10 ^ (Lib.decDigits (u / 10)).length * 10) = acc * 10 ^ (Lib.decDigits (u / 10)).length * 10 := by rw [Nat.mul_assoc]
      rw [h1] at h ⊢
      rw [List.cons_append, List.nil_append, Lib.parseUint10, if_pos (by omega), if_neg (by omega), if_neg (by omega), hb]
      congr 1; omega
theorem decDigits_ne (u : Nat) : Lib.decDigits u ≠ [] := by
  rw [Lib.decDigits]; split <;> simp
theorem decDigits_dig (u : Nat) : ∀ b ∈ Lib.decDigits u, 48 ≤ b.toNat ∧ b.toNat ≤ 57 := by
  induction u using Nat.strongRecOn with
  | ind u ih =>
    intro b hb
    by_cases hu : u < 10
    · rw [Lib.decDigits_one hu] at hb
      obtain rfl := List.mem_singleton.1 hb
      have := dig_byte hu; omega
    · rw [Lib.decDigits, dif_neg hu] at hb
      rcases List.mem_append.1 hb with h | h
      · exact ih (u / 10) (by omega) b h
      · obtain rfl := List.mem_singleton.1 h
        have := dig_byte (Nat.mod_lt u (show 0 < 10 by omega)); omega
theorem atoi_dec {u : Nat} (h : u < 1000000) : Lib.atoiAll (Lib.decDigits u) = .ok u := by
  have h0 := parse_dig u 0 (by omega) []
  rw [List.append_nil] at h0
  cases hd : Lib.decDigits u with
  | nil => exact absurd hd (decDigits_ne u)
  | cons c r =>
    have hc := decDigits_dig u c (by rw [hd]; exact List.mem_cons_self ..)
    rw [hd] at h0
    rw [Lib.atoiAll, if_neg (by omega), Lib.parseMag, if_neg (by simp), h0]
    simp only [Lib.parseUint10, Nat.zero_mul, Nat.zero_add]
    rw [if_neg (by omega), if_neg (by omega), if_neg (by omega)]
theorem Num.atoi {s : ByteArray} {v : Int} (h : Num s v) : Lib.atoiAll s.data.toList = .ok v := by
  obtain ⟨h0, h1, rfl⟩ := h
  have := atoi_dec (u := v.toNat) (by omega)
  rw [show ((v.toNat : Nat) : Int) = v by omega] at this
  simpa [numS] using this
end Go.V
/- Texts of diagrams: cutting and joining. -/
namespace Go.V
open Go
def pieceAt (p1 p2 p3 p4 : ByteArray) : Nat → ByteArray
  | 0 => p1
  | 1 => p2
  | 2 => p3
  | _ => p4
theorem five {α : Type} {l : List α} (h : l.length = 5) : ∃ a b c d e, l = [a, b, c, d, e] := by
  match l, h with
  | [a, b, c, d, e], _ => exact ⟨a, b, c, d, e, rfl⟩
/-- The numbers so far. -/
def NumsTo (p1 p2 p3 p4 : ByteArray) (l : List Int) : Prop := ∀ j, j < l.length → Num (pieceAt p1 p2 p3 p4 j) (l.getD j 0)
theorem NumsTo.snoc {p1 p2 p3 p4 : ByteArray} {l : List Int} {v : Int} (h : NumsTo p1 p2 p3 p4 l) (hv : Num (pieceAt p1 p2 p3 p4 l.length) v) : NumsTo p1 p2 p3 p4 (l ++ [v]) := fun j hj => by
  rw [List.length_append] at hj
  have hj : j < l.length + 1 := hj
  rcases Nat.lt_or_ge j l.length with h1 | h1
  · have := h j h1
    rw [List.getD_eq_getElem?_getD] at this ⊢
    rwa [List.getElem?_append_left h1]
  · obtain rfl : j = l.length := by omega
    rw [List.getD_eq_getElem?_getD, List.getElem?_append_right (Nat.le_refl _), Nat.sub_self]
    exact hv
end Go.V
/- Texts of gluings. -/
namespace Go.V
open Go
/-- The first digits of a permutation. -/
def dTo (p : P4) : Nat → ByteArray
  | 0 => ⟨#[]⟩
  | k + 1 => dTo p k ++ numS (p.at k)
theorem p4_small {p : P4} (h : okP p = true) (k : Nat) : 0 ≤ p.at k ∧ p.at k ≤ 3 := by
  have := okP_at h k; omega
theorem dTo_size {p : P4} (h : okP p = true) : ∀ k, (dTo p k).size ≤ 1001 * k
  | 0 => Nat.zero_le _
  | k + 1 => by
    have h1 := dTo_size h k
    have h2 := p4_small h k
    have h3 := numS_mid h2.1 (by omega)
    rw [dTo, ByteArray.size_append]; omega
def dashS : ByteArray := ⟨#[45]⟩
def fcS (x : Fc) : List ByteArray := if x.tet < 0 then [dashS] else [numS x.tet, dTo x.p 4]
theorem fcS_neg {x : Fc} (h : x.tet < 0) : fcS x = [dashS] := if_pos h
theorem fcS_pos {x : Fc} (h : ¬ x.tet < 0) : fcS x = [numS x.tet, dTo x.p 4] := if_neg h
/-- The words of a text, up to a face. -/
def wordsTo (g : Glu) : Nat → List ByteArray
  | 0 => [numS g.length]
  | j + 1 => wordsTo g j ++ fcS (fAt g (j / 4) (j % 4))
theorem wordsTo_step {g : Glu} {t f : Nat} (hf : f < 4) : wordsTo g (4 * t + f + 1) = wordsTo g (4 * t + f) ++ fcS (fAt g t f) := by
  rw [wordsTo, show (4 * t + f) / 4 = t by omega, show (4 * t + f) % 4 = f by omega]
theorem wordsTo_pos (g : Glu) : ∀ j, 1 ≤ (wordsTo g j).length
  | 0 => Nat.le_refl _
  | j + 1 => by have := wordsTo_pos g j; rw [wordsTo, List.length_append]; omega
theorem fcS_len (x : Fc) : (fcS x).length ≤ 2 := by rw [fcS]; split <;> simp
theorem wordsTo_len (g : Glu) : ∀ j, (wordsTo g j).length ≤ 1 + 2 * j
  | 0 => Nat.le_refl _
  | j + 1 => by have := wordsTo_len g j; have := fcS_len (fAt g (j / 4) (j % 4)); rw [wordsTo, List.length_append]; omega
theorem wordsTo_size {g : Glu} (h : okG g = true) : ∀ j, j ≤ 4 * g.length → ∀ s ∈ wordsTo g j, s.size ≤ 4004
  | 0, _, s, hs => by
    obtain rfl := List.mem_singleton.1 hs
    have h1 := okG_len h
    have := numS_mid (n := (g.length : Int)) (by omega) (by omega); omega
  | j + 1, hj, s, hs => by
    rcases List.mem_append.1 hs with h1 | h1
    · exact wordsTo_size h j (by omega) s h1
    · have hN := okG_len h
      have ht := okG_tet h (t := j / 4) (f := j % 4) (by omega) (by omega)
      rw [fcS] at h1
      split at h1
      · obtain rfl := List.mem_singleton.1 h1; decide
      · rename_i h0
        have hok := (okG_glued h (t := j / 4) (f := j % 4) (by omega) (by omega) (by omega)).ok
        simp only [List.mem_cons, List.not_mem_nil, or_false] at h1
        rcases h1 with rfl | rfl
        · have := numS_mid (n := (fAt g (j / 4) (j % 4)).tet) (by omega) (by omega); omega
        · have := dTo_size hok 4; omega
def joinW (xs : List ByteArray) : ByteArray := ⟨(Lib.join (xs.map (·.data.toList)) spS.data.toList).toArray⟩
def wordsG (g : Glu) : List ByteArray := wordsTo g (4 * g.length)
def textG (g : Glu) : ByteArray := joinW (wordsG g)
theorem joinW_len {k : Nat} {l : List ByteArray} (h : ∀ s ∈ l, s.size ≤ k) : (Lib.join (l.map (·.data.toList)) spS.data.toList).length ≤ (k + 1) * l.length := by
  cases l with
  | nil => exact Nat.zero_le _
  | cons s r =>
    have h1 := lens_le h
    rw [List.map_cons] at h1 ⊢
    rw [Lib.join_length]
    have : spS.data.toList.length = 1 := rfl
    rw [this]
    simp only [List.length_map, List.length_cons] at h1 ⊢
    rw [Nat.add_mul]; omega
theorem wordsG_len {g : Glu} (h : okG g = true) : (wordsG g).length ≤ 8001 := by
  have h1 := okG_len h
  have h2 := wordsTo_len g (4 * g.length)
  rw [wordsG]; omega
end Go.V
