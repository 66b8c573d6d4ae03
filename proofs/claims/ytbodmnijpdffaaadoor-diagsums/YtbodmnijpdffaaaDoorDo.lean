/- Plain laws, part o: soundness, pieces and regions of diagrams whose places are relabelled. -/
import Derived.Test.YtbodmnijpdffaaaDoorDh
namespace Go.V
open Go
/-! ### Counting by an injective relation -/
theorem inj_len {α β : Type} (R : α → β → Prop) : ∀ (L : List α) (L' : List β), (∀ a ∈ L, ∃ b ∈ L', R a b) → L.Pairwise (fun a a' => ∀ b ∈ L', R a b → ¬ R a' b) → L.length ≤ L'.length
  | [], _, _, _ => Nat.zero_le _
  | a :: L, L', ht, hp => by
    obtain ⟨b, hb, hr⟩ := ht a List.mem_cons_self
    obtain ⟨s, t, rfl⟩ := List.append_of_mem hb
    obtain ⟨h1, h2⟩ := List.pairwise_cons.1 hp
    have sub : ∀ x, x ∈ s ++ t → x ∈ s ++ b :: t := fun x hx => by
      rcases List.mem_append.1 hx with h | h
      · exact List.mem_append.2 (.inl h)
      · exact List.mem_append.2 (.inr (List.mem_cons_of_mem _ h))
    have key := inj_len R L (s ++ t) (fun a' ha' => by
      obtain ⟨b', hb', hr'⟩ := ht a' (List.mem_cons_of_mem _ ha')
      have hne : b' ≠ b := fun e => by subst e; exact h1 a' ha' b' hb' hr hr'
      refine ⟨b', ?_, hr'⟩
      rcases List.mem_append.1 hb' with h | h
      · exact List.mem_append.2 (.inl h)
      · rcases List.mem_cons.1 h with h | h
        · exact absurd h hne
        · exact List.mem_append.2 (.inr h)) (h2.imp fun h b hb => h b (sub b hb))
    simp only [List.length_append, List.length_cons] at key ⊢; omega
/-! ### Orbits of places -/
def Orb (d : Dia) (q q' : Nat) : Prop := ∃ k, q' = iter (stepQ d) k q
theorem Orb.trans {d : Dia} {a b c : Nat} (h : Orb d a b) (k : Orb d b c) : Orb d a c := by
  obtain ⟨i, rfl⟩ := h
  obtain ⟨j, rfl⟩ := k
  exact ⟨j + i, by rw [iter_add]⟩
theorem iter_one (f : Nat → Nat) (x : Nat) : iter f 1 x = f x := rfl
/-- A map that is injective on the numbers below N and stays there leads back. -/
theorem orb_back {f : Nat → Nat} {N : Nat} (hf : ∀ x, x < N → f x < N) (hi : ∀ x y, x < N → y < N → f x = f y → x = y) : ∀ (k x : Nat), x < N → ∃ m, x = iter f m (iter f k x)
  | 0, x, _ => ⟨0, rfl⟩
  | k + 1, x, hx => by
    obtain ⟨m, hm⟩ := orb_back hf hi k (f x) (hf x hx)
    obtain ⟨j, _, hj⟩ := comes_back hf hi hx
    refine ⟨j + m, ?_⟩
    rw [iter_add, show iter f (k + 1) x = iter f k (f x) from rfl, ← hm]
    exact hj.symm
theorem SoundP.orb_symm {d : Dia} (h : SoundP d) {q q' : Nat} (hq : q < 4 * d.cross.length) (o : Orb d q q') : Orb d q' q := by
  obtain ⟨k, rfl⟩ := o
  obtain ⟨m, hm⟩ := orb_back (fun x hx => h.step_lt hx) (fun x y hx hy e => h.step_inj hx hy e) k q hq
  exact ⟨m, hm⟩
theorem SoundP.orb_lt {d : Dia} (h : SoundP d) {q q' : Nat} (hq : q < 4 * d.cross.length) (o : Orb d q q') : q' < 4 * d.cross.length := by
  obtain ⟨k, rfl⟩ := o
  exact iter_lt (fun x hx => h.step_lt hx) k q hq
theorem SoundP.orb_conn {d : Dia} (_ : SoundP d) {q q' : Nat} (_ : q < 4 * d.cross.length) (o : Orb d q q') : Conn d (q / 4) (q' / 4) := by
  obtain ⟨k, rfl⟩ := o
  induction k with
  | zero => exact .refl
  | succ k ih =>
    rw [iter_succ, step_div]
    have := Conn.step (p := iter (stepQ d) k q % 4) ih (by omega)
    rwa [show 4 * (iter (stepQ d) k q / 4) + iter (stepQ d) k q % 4 = iter (stepQ d) k q by omega] at this
theorem regsOf_mem {d : Dia} {r : List Nat} (hr : r ∈ regsOf d) : ∃ q, q < 4 * d.cross.length ∧ r = regionOf d q := regsTo_mem d _ r hr
theorem regs_pairwise {d : Dia} (h : SoundP d) : (regsOf d).Pairwise (fun r r' => ∀ x ∈ r, x ∉ r') := by
  have := (regOk h (4 * d.cross.length) (Nat.le_refl _)).nodup
  rw [List.nodup_iff_pairwise_ne, List.pairwise_flatten] at this
  exact this.2.imp fun h x hx hx' => h x hx x hx' rfl
/-- Places of d go to places of d', pieces to pieces, regions apart to regions apart. -/
structure Moves (d d' : Dia) (φ : Nat → Nat) : Prop where
  lt : ∀ q, q < 4 * d.cross.length → φ q < 4 * d'.cross.length
  conn : ∀ a q, a < d.cross.length → q < 4 * d.cross.length → Conn d a (q / 4) → Conn d' a (φ q / 4)
  orb : ∀ q q', q < 4 * d.cross.length → q' < 4 * d.cross.length → Orb d' (φ q) (φ q') → Orb d q q'
theorem cntReg_le {d d' : Dia} {φ : Nat → Nat} (hs : SoundP d) (hs' : SoundP d') (m : Moves d d' φ) {c : Nat} (hc : c < d.cross.length) : cntReg d c ≤ cntReg d' c := by
  refine inj_len (fun r r' => ∃ q ∈ r, φ q ∈ r') _ _ (fun r hr => ?_) ?_
  · obtain ⟨hr, hcn⟩ := List.mem_filter.1 hr
    obtain ⟨q, hq, rfl⟩ := regsOf_mem hr
    have h0 : 0 < d.cross.length := by omega
    rw [(regionOf_head h0).1] at hcn
    have hm := (regOk hs' (4 * d'.cross.length) (Nat.le_refl _)).all (φ q) (m.lt q hq)
    obtain ⟨r', hr', hin⟩ := List.mem_flatten.1 hm
    obtain ⟨q', hq', rfl⟩ := regsOf_mem hr'
    refine ⟨_, List.mem_filter.2 ⟨hr', ?_⟩, q, (mem_region hs hq).2 ⟨0, rfl⟩, hin⟩
    rw [(regionOf_head (by omega)).1, connB_iff]
    have h1 := m.conn c q hc hq (connB_iff.1 hcn)
    have h2 : Orb d' q' (φ q) := (mem_region hs' hq').1 hin
    exact h1.trans ((hs'.orb_conn hq' h2).symm hs' (by omega))
  · have hp := (regs_pairwise hs).filter (fun r => connB d c (r.headD 0 / 4))
    refine List.Pairwise.imp_of_mem ?_ hp
    intro r r2 hr hr2 hdis b hb ⟨q, hq, hqb⟩ ⟨q2, hq2, hqb2⟩
    obtain ⟨x, hx, rfl⟩ := regsOf_mem (List.mem_filter.1 hr).1
    obtain ⟨x2, hx2, rfl⟩ := regsOf_mem (List.mem_filter.1 hr2).1
    obtain ⟨y, hy, rfl⟩ := regsOf_mem (List.mem_filter.1 hb).1
    have o1 : Orb d x q := (mem_region hs hx).1 hq
    have o2 : Orb d x2 q2 := (mem_region hs hx2).1 hq2
    have l1 := hs.orb_lt hx o1
    have l2 := hs.orb_lt hx2 o2
    have p1 : Orb d' y (φ q) := (mem_region hs' hy).1 hqb
    have p2 : Orb d' y (φ q2) := (mem_region hs' hy).1 hqb2
    have o3 := m.orb q q2 l1 l2 ((hs'.orb_symm hy p1).trans p2)
    exact hdis q2 ((mem_region hs hx).2 (o1.trans o3)) hq2
/-- Planarity depends on pieces and on the number of regions. -/
theorem planar_of {d d' : Dia} {φ ψ : Nat → Nat} (hs : SoundP d) (hs' : SoundP d') (hl : d'.cross.length = d.cross.length) (hc : ∀ a c, a < d.cross.length → (Conn d a c ↔ Conn d' a c)) (m : Moves d d' φ) (m' : Moves d' d ψ) (hp : PlanarP d) : PlanarP d' := fun c h => by
  have h : c < d.cross.length := by omega
  have h1 := cntReg_le hs hs' m h
  have h2 := cntReg_le hs' hs m' (c := c) (by omega)
  have h3 : pieceOf d' c = pieceOf d c := by
    simp only [pieceOf, hl]
    refine congrArg (fun f => List.filter f _) (funext fun x => ?_)
    by_cases hx : Conn d c x
    · rw [connB_iff.2 hx, connB_iff.2 ((hc c x h).1 hx)]
    · rw [connB_false.2 hx, connB_false.2 (fun k => hx ((hc c x h).2 k))]
  have := hp c h
  rw [h3]; omega
/-! ### Soundness -/
theorem cnt_none {d : Dia} {a : Int} {inn : Bool} : ∀ {Q : Nat}, (∀ q, q < Q → matchAt d a inn q = false) → cnt d a inn Q = 0
  | 0, _ => rfl
  | Q + 1, h => by rw [cnt_succ, cnt_none (fun q hq => h q (by omega)), h Q (by omega)]; simp
theorem cnt_one {d : Dia} {a : Int} {inn : Bool} : ∀ {Q q : Nat}, q < Q → matchAt d a inn q = true → (∀ q', q' < Q → matchAt d a inn q' = true → q' = q) → cnt d a inn Q = 1
  | Q + 1, q, hq, hm, hu => by
    rw [cnt_succ]
    by_cases e : q = Q
    · subst e
      rw [hm, cnt_none fun q' hq' => by
        cases h : matchAt d a inn q' with
        | false => rfl
        | true => have := hu q' (by omega) h; omega]
      simp
    · rw [cnt_one (q := q) (by omega) hm (fun q' hq' h => hu q' (by omega) h)]
      have : matchAt d a inn Q = false := by
        cases h : matchAt d a inn Q with
        | false => rfl
        | true => have := hu Q (by omega) h; omega
      rw [this]; simp
/-- Places are relabelled; the direction of an arc may turn. -/
structure RelabF (d d' : Dia) (σ : Nat → Nat) (fl : Int → Bool) : Prop extends Relab d d' σ where
  sur : ∀ q, q < 4 * d.cross.length → ∃ q', q' < 4 * d.cross.length ∧ σ q' = q
  inn : ∀ q, q < 4 * d.cross.length → innQ d' q = (innQ d (σ q) ^^ fl (arcQ d (σ q)))
  sgn : ∀ x ∈ d'.cross, x.s = 1 ∨ x.s = -1
  lps : d'.loops = d.loops
theorem RelabF.sound {d d' : Dia} {σ : Nat → Nat} {fl : Int → Bool} (r : RelabF d d' σ fl) (h : SoundP d) : SoundP d' := by
  have hl := r.len
  refine ⟨by rw [hl]; exact h.1, by rw [r.lps]; exact h.2.1, by rw [r.lps]; exact h.2.2.1, fun x hx => ⟨r.sgn x hx, fun p hp => ?_⟩, fun a ha => ?_⟩
  · obtain ⟨c, hcx⟩ := List.getElem?_of_mem hx
    have hc := (List.getElem?_eq_some_iff.1 hcx).1
    have hq : 4 * c + p < 4 * d.cross.length := by omega
    have e := r.arc _ hq
    rw [arcQ, show (4 * c + p) / 4 = c by omega, show (4 * c + p) % 4 = p by omega, crAt_eq hcx] at e
    rw [e, hl]
    exact h.arcQ (r.lt hq)
  · rw [hl] at ha ⊢
    have key : ∀ inn : Bool, cnt d' (a : Int) inn (4 * d.cross.length) = 1 := fun inn => by
      obtain ⟨q0, hq0⟩ := h.find ha (inn ^^ fl (a : Int))
      obtain ⟨l0, a0, i0, _⟩ := findEnd_some hq0
      obtain ⟨q1, l1, e1⟩ := r.sur q0 l0
      refine cnt_one (q := q1) l1 ((matchAt_iff (by omega)).2 ⟨?_, ?_⟩) (fun q' hq' hm => ?_)
      · rw [r.arc q1 l1, e1, a0]
      · rw [r.inn q1 l1, e1, i0, a0]; cases inn <;> cases fl (a : Int) <;> rfl
      · obtain ⟨ma, mi⟩ := (matchAt_iff (by omega)).1 hm
        rw [r.arc q' hq'] at ma
        rw [r.inn q' hq', ma] at mi
        refine r.inj _ _ hq' l1 ?_
        rw [e1]
        refine h.place_unique (r.lt hq') l0 (by rw [ma, a0]) ?_
        rw [i0, ← mi]; cases innQ d (σ q') <;> cases fl (a : Int) <;> rfl
    exact ⟨key false, key true⟩
def rotQ (k q : Nat) : Nat := 4 * (q / 4) + (q % 4 + k) % 4
theorem step_rot (d : Dia) (q : Nat) : stepQ d q = rotQ 3 (otherQ d q) := rfl
/-- A relabelling that turns the places of each crossing. -/
theorem Relab.moves_rot {d d' : Dia} {σ : Nat → Nat} (r : Relab d d' σ) (h : SoundP d) (h' : SoundP d') (hr : ∀ q, q < 4 * d.cross.length → σ (rotQ 3 q) = rotQ 3 (σ q)) : Moves d' d σ := by
  have hl := r.len
  have st : ∀ q, q < 4 * d.cross.length → σ (stepQ d' q) = stepQ d (σ q) := fun q hq => by
    rw [step_rot, hr _ (by rw [← hl]; exact h'.other_lt (by omega)), r.other h h' hq, step_rot]
  refine ⟨fun q hq => r.lt (by omega), fun a q ha hq hcn => ?_, fun q q' hq hq' ⟨k, hk⟩ => ?_⟩
  · rw [r.cr q (by omega)]
    exact r.conn h h' (by omega) hcn
  · have key : ∀ k, iter (stepQ d) k (σ q) = σ (iter (stepQ d') k q) := fun k => by
      induction k with
      | zero => rfl
      | succ k ih => rw [iter_succ, iter_succ, ih, st _ (by rw [← hl]; exact iter_lt (fun x hx => h'.step_lt hx) k q hq)]
    rw [key] at hk
    exact ⟨k, r.inj _ _ (by omega) (by rw [← hl]; exact iter_lt (fun x hx => h'.step_lt hx) k q hq) hk⟩
/-- A relabelling that turns over the places of each crossing. -/
theorem Relab.moves_ref {d d' : Dia} {σ : Nat → Nat} (r : Relab d d' σ) (h : SoundP d) (h' : SoundP d') (hr : ∀ q, q < 4 * d.cross.length → rotQ 3 (σ (rotQ 3 q)) = σ q) : Moves d' d (fun q => otherQ d (σ q)) := by
  have hl := r.len
  have st : ∀ q, q < 4 * d.cross.length → stepQ d (otherQ d (σ (stepQ d' q))) = otherQ d (σ q) := fun q hq => by
    have ho : otherQ d' q < 4 * d.cross.length := by rw [← hl]; exact h'.other_lt (by omega)
    have hs : rotQ 3 (otherQ d' q) < 4 * d.cross.length := by simp only [rotQ]; omega
    rw [step_rot, step_rot d', h.other_other (r.lt hs), hr _ ho, r.other h h' hq]
  refine ⟨fun q hq => h.other_lt (r.lt (by omega)), fun a q ha hq hcn => ?_, fun q q' hq hq' ho => ?_⟩
  · have hc1 := r.conn h h' (by omega) hcn
    have hq2 : q < 4 * d.cross.length := by omega
    have := Conn.step (p := σ q % 4) hc1 (by omega)
    rw [← r.cr q hq2, show 4 * (σ q / 4) + σ q % 4 = σ q by omega] at this
    exact this
  · have hq0 : q < 4 * d.cross.length := by omega
    have hq0' : q' < 4 * d.cross.length := by omega
    have key : ∀ k, iter (stepQ d) k (otherQ d (σ (iter (stepQ d') k q))) = otherQ d (σ q) := fun k => by
      induction k with
      | zero => rfl
      | succ k ih =>
        have hl2 : iter (stepQ d') k q < 4 * d.cross.length := by rw [← hl]; exact iter_lt (fun x hx => h'.step_lt hx) k q hq
        rw [iter_succ (stepQ d') k q]
        show iter (stepQ d) k (stepQ d (otherQ d (σ (stepQ d' (iter (stepQ d') k q))))) = _
        rw [st _ hl2, ih]
    obtain ⟨k, hk⟩ := h.orb_symm (h.other_lt (r.lt hq0)) ho
    have hlk : iter (stepQ d') k q < 4 * d.cross.length := by rw [← hl]; exact iter_lt (fun x hx => h'.step_lt hx) k q hq
    have inj : ∀ (k x y : Nat), x < 4 * d.cross.length → y < 4 * d.cross.length → iter (stepQ d) k x = iter (stepQ d) k y → x = y := fun k => by
      induction k with
      | zero => intro x y _ _ e; exact e
      | succ k ih => intro x y hx hy e; exact h.step_inj hx hy (ih _ _ (h.step_lt hx) (h.step_lt hy) e)
    have h2 := inj k _ _ (h.other_lt (r.lt hlk)) (h.other_lt (r.lt hq0')) ((key k).trans hk)
    have h3 : σ (iter (stepQ d') k q) = σ q' := by rw [← h.other_other (r.lt hlk), h2, h.other_other (r.lt hq0')]
    exact ⟨k, (r.inj _ _ hlk hq0' h3).symm⟩
end Go.V
/- Plain laws, part p: components of changed diagrams; mirror images, reflections, reversals. -/
namespace Go.V
open Go
/-! ### Components are the orbits of the arcs -/
theorem getD_set {l : List Int} {b i : Nat} {k : Int} (hb : b < l.length) : (l.set b k).getD i 0 = if b = i then k else l.getD i 0 := by
  rw [List.getD_eq_getElem?_getD, List.getElem?_set, List.getD_eq_getElem?_getD]
  by_cases e : b = i
  · subst e; rw [if_pos rfl, if_pos hb, if_pos rfl]; rfl
  · rw [if_neg e, if_neg e]
theorem markC_orb {nx : Nat → Nat} {N b : Nat} {k : Int} (hk : 0 ≤ k) (hlt : ∀ a, a < N → nx a < N) (hb : b < N) {out : List Int} (hneg : ∀ m, out.getD (iter nx m b) 0 < 0) : ∀ (f j : Nat) (cur : List Int), cur.length = N → negs cur ≤ f →
    (∀ i, i < N → ((∃ m, m < j ∧ i = iter nx m b) → cur.getD i 0 = k) ∧ ((¬ ∃ m, m < j ∧ i = iter nx m b) → cur.getD i 0 = out.getD i 0)) →
    ∀ i, i < N → ((∃ m, i = iter nx m b) → (markC nx k f cur (iter nx j b)).getD i 0 = k) ∧ ((¬ ∃ m, i = iter nx m b) → (markC nx k f cur (iter nx j b)).getD i 0 = out.getD i 0) := by
  have stop : ∀ (f j : Nat) (cur : List Int), ¬ cur.getD (iter nx j b) 0 < 0 →
      (∀ i, i < N → ((∃ m, m < j ∧ i = iter nx m b) → cur.getD i 0 = k) ∧ ((¬ ∃ m, m < j ∧ i = iter nx m b) → cur.getD i 0 = out.getD i 0)) →
      ∀ i, i < N → ((∃ m, i = iter nx m b) → (markC nx k f cur (iter nx j b)).getD i 0 = k) ∧ ((¬ ∃ m, i = iter nx m b) → (markC nx k f cur (iter nx j b)).getD i 0 = out.getD i 0) := by
    intro f j cur h hc i hi
    rw [markC_stop h]
    have hm : ∃ m, m < j ∧ iter nx j b = iter nx m b := Classical.byContradiction fun hn => by
      have := (hc _ (iter_lt hlt j b hb)).2 hn
      rw [this] at h; exact h (hneg j)
    obtain ⟨m, hmj, e⟩ := hm
    have all : ∀ m', ∃ m, m < j ∧ iter nx m' b = iter nx m b := fun m' => by
      induction m' with
      | zero => exact ⟨0, by omega, rfl⟩
      | succ m' ih =>
        obtain ⟨m2, h2, e2⟩ := ih
        rw [iter_succ, e2, ← iter_succ nx m2 b]
        rcases Nat.lt_or_ge (m2 + 1) j with h3 | h3
        · exact ⟨m2 + 1, h3, rfl⟩
        · obtain rfl : m2 + 1 = j := by omega
          exact ⟨m, hmj, e⟩
    refine ⟨fun ⟨m', e'⟩ => ?_, fun hn => (hc i hi).2 fun ⟨m, _, e⟩ => hn ⟨m, e⟩⟩
    obtain ⟨m2, h2, e2⟩ := all m'
    exact (hc i hi).1 ⟨m2, h2, e'.trans e2⟩
  intro f
  induction f with
  | zero =>
    intro j cur hl hn hc
    refine stop 0 j cur (fun h => ?_) hc
    have := negs_pos (by rw [hl]; exact iter_lt hlt j b hb) h
    omega
  | succ f ih =>
    intro j cur hl hn hc
    by_cases h : cur.getD (iter nx j b) 0 < 0
    · have hjl : iter nx j b < N := iter_lt hlt j b hb
      rw [markC_go h, ← iter_succ nx j b]
      refine ih (j + 1) _ (by simp [hl]) (by have := negs_set (by omega) h hk; omega) (fun i hi => ?_)
      rw [getD_set (by omega)]
      by_cases e : iter nx j b = i
      · rw [if_pos e]
        exact ⟨fun _ => rfl, fun hn => absurd ⟨j, by omega, e.symm⟩ hn⟩
      · rw [if_neg e]
        refine ⟨fun ⟨m, hm, em⟩ => (hc i hi).1 ⟨m, ?_, em⟩, fun hn => (hc i hi).2 fun ⟨m, hm, em⟩ => hn ⟨m, by omega, em⟩⟩
        rcases Nat.lt_or_ge m j with h3 | h3
        · exact h3
        · obtain rfl : m = j := by omega
          exact absurd em.symm e
    · exact stop (f + 1) j cur h hc
theorem compTo_mark {nx : Nat → Nat} {N a : Nat} (hlt : ∀ a, a < N → nx a < N) (ha : a < N) {out : List Int} {k : Int} (hk : 0 ≤ k) (hl : out.length = N) (hneg : ∀ m, out.getD (iter nx m a) 0 < 0) {i : Nat} (hi : i < N) : ((∃ m, i = iter nx m a) → (markC nx k N out a).getD i 0 = k) ∧ ((¬ ∃ m, i = iter nx m a) → (markC nx k N out a).getD i 0 = out.getD i 0) := by
  have := markC_orb hk hlt ha hneg N 0 out hl (by have := negs_le out; omega) (fun i _ => ⟨fun ⟨m, h, _⟩ => by omega, fun _ => rfl⟩) i hi
  exact this
theorem compTo_orb {nx : Nat → Nat} {N : Nat} (hlt : ∀ a, a < N → nx a < N) (hinj : ∀ a b, a < N → b < N → nx a = nx b → a = b) : ∀ a, a ≤ N → ∀ i m, i < N → (compTo nx N a).1.getD (iter nx m i) 0 = (compTo nx N a).1.getD i 0 := by
  intro a
  induction a with
  | zero =>
    intro _ i m hi
    have h2 := iter_lt hlt m i hi
    simp [compTo, List.getD_eq_getElem?_getD, hi, h2]
  | succ a ih =>
    intro ha i m hi
    have ih := ih (by omega)
    rw [compTo_succ, compStep]
    split
    · exact ih i m hi
    · rename_i hn
      have hneg : ∀ m, (compTo nx N a).1.getD (iter nx m a) 0 < 0 := fun m => by rw [ih a m (by omega)]; omega
      have hmi := iter_lt hlt m i hi
      have k1 := compTo_mark hlt (show a < N by omega) (k := ((compTo nx N a).2 : Int)) (by omega) (compTo_len _ _ _) hneg hi
      have k2 := compTo_mark hlt (show a < N by omega) (k := ((compTo nx N a).2 : Int)) (by omega) (compTo_len _ _ _) hneg hmi
      by_cases hx : ∃ m', i = iter nx m' a
      · obtain ⟨m', e⟩ := hx
        exact (k2.1 ⟨m + m', by rw [e, iter_add]⟩).trans (k1.1 ⟨m', e⟩).symm
      · refine (k2.2 fun ⟨m', e⟩ => hx ?_).trans ((ih i m hi).trans (k1.2 hx).symm)
        obtain ⟨m2, e2⟩ := orb_back hlt hinj m i hi
        exact ⟨m2 + m', by rw [e2, e, iter_add]⟩
theorem ext_getD {l l' : List Int} (hl : l.length = l'.length) (h : ∀ i, i < l.length → l.getD i 0 = l'.getD i 0) : l = l' := by
  refine List.ext_getElem hl fun i h1 h2 => ?_
  have := h i h1
  simpa [List.getD_eq_getElem?_getD, h1, h2] using this
theorem compTo_congr {nx nx' : Nat → Nat} {N : Nat} (hlt : ∀ a, a < N → nx a < N) (hinj : ∀ a b, a < N → b < N → nx a = nx b → a = b) (hlt' : ∀ a, a < N → nx' a < N) (horb : ∀ i j, i < N → ((∃ m, j = iter nx m i) ↔ ∃ m, j = iter nx' m i)) : ∀ a, a ≤ N → compTo nx' N a = compTo nx N a := by
  intro a
  induction a with
  | zero => intro _; rfl
  | succ a ih =>
    intro ha
    rw [compTo_succ, compTo_succ, ih (by omega), compStep, compStep]
    split
    · rfl
    · rename_i hn
      have hneg : ∀ m, (compTo nx N a).1.getD (iter nx m a) 0 < 0 := fun m => by rw [compTo_orb hlt hinj a (by omega) a m (by omega)]; omega
      have hneg' : ∀ m, (compTo nx N a).1.getD (iter nx' m a) 0 < 0 := fun m => by
        obtain ⟨m', e⟩ := (horb a _ (by omega)).2 ⟨m, rfl⟩
        rw [e]; exact hneg m'
      refine Prod.ext (ext_getD (by rw [markC_len, markC_len]) fun i hi => ?_) rfl
      rw [markC_len, compTo_len] at hi
      have k1 := compTo_mark hlt (show a < N by omega) (k := ((compTo nx N a).2 : Int)) (by omega) (compTo_len _ _ _) hneg hi
      have k2 := compTo_mark hlt' (show a < N by omega) (k := ((compTo nx N a).2 : Int)) (by omega) (compTo_len _ _ _) hneg' hi
      by_cases hx : ∃ m', i = iter nx m' a
      · exact (k2.1 ((horb a i (by omega)).1 hx)).trans (k1.1 hx).symm
      · exact (k2.2 fun k => hx ((horb a i (by omega)).2 k)).trans (k1.2 hx).symm
/-! ### The arc behind an arc -/
theorem rotQ_div (k q : Nat) : rotQ k q / 4 = q / 4 := by simp only [rotQ]; omega
theorem rotQ_mod (k q : Nat) : rotQ k q % 4 = (q % 4 + k) % 4 := by simp only [rotQ]; omega
theorem rotQ_22 (q : Nat) : rotQ 2 (rotQ 2 q) = q := by simp only [rotQ]; omega
theorem rotQ_lt {k q n : Nat} (h : q < 4 * n) : rotQ k q < 4 * n := by simp only [rotQ]; omega
theorem SoundP.sgn {d : Dia} (h : SoundP d) {c : Nat} (hc : c < d.cross.length) : (crAt d c).s = 1 ∨ (crAt d c).s = -1 := (h.2.2.2.1 _ (List.mem_of_getElem? (crAt_get hc))).1
theorem inn_rot2 {x : Cr} (hs : x.s = 1 ∨ x.s = -1) {p : Nat} (hp : p < 4) : x.inn ((p + 2) % 4) = !x.inn p := by
  match p, hp with
  | 0, _ => rcases hs with h | h <;> simp [Cr.inn, h]
  | 1, _ => rcases hs with h | h <;> simp [Cr.inn, h]
  | 2, _ => rcases hs with h | h <;> simp [Cr.inn, h]
  | 3, _ => rcases hs with h | h <;> simp [Cr.inn, h]
theorem SoundP.inn_rot {d : Dia} (h : SoundP d) {q : Nat} (hq : q < 4 * d.cross.length) : innQ d (rotQ 2 q) = !innQ d q := by
  rw [innQ, rotQ_div, rotQ_mod, inn_rot2 (h.sgn (by omega)) (by omega), innQ]
theorem SoundP.next_at {d : Dia} (h : SoundP d) {q : Nat} (hq : q < 4 * d.cross.length) (hi : innQ d q = true) : nextA d (V.arcQ d q) = V.arcQ d (rotQ 2 q) := by
  have ha := h.arcQ hq
  obtain ⟨q', hq'⟩ := h.find (a := (V.arcQ d q).toNat) (by omega) true
  rw [show (((V.arcQ d q).toNat : Nat) : Int) = V.arcQ d q by omega] at hq'
  obtain ⟨l, e1, e2, _⟩ := findEnd_some hq'
  obtain rfl := h.place_unique l hq e1 (e2.trans hi.symm)
  rw [nextA, hq', V.arcQ, rotQ_div, rotQ_mod]
theorem SoundP.nextN_at {d : Dia} (h : SoundP d) {q : Nat} (hq : q < 4 * d.cross.length) (hi : innQ d q = true) : nextN d (V.arcQ d q).toNat = (V.arcQ d (rotQ 2 q)).toNat := by
  have ha := h.arcQ hq
  rw [nextN, show (((V.arcQ d q).toNat : Nat) : Int) = V.arcQ d q by omega, h.next_at hq hi]
/-- The place at which an arc goes in. -/
theorem SoundP.in_at {d : Dia} (h : SoundP d) {a : Nat} (ha : a < 2 * d.cross.length) (inn : Bool) : ∃ q, q < 4 * d.cross.length ∧ V.arcQ d q = (a : Int) ∧ innQ d q = inn := by
  obtain ⟨q, hq⟩ := h.find ha inn
  obtain ⟨l, e1, e2, _⟩ := findEnd_some hq
  exact ⟨q, l, e1, e2⟩
theorem SoundP.next_lt {d : Dia} (h : SoundP d) (a : Nat) (ha : a < 2 * d.cross.length) : nextN d a < 2 * d.cross.length := (h.next ha).2
theorem SoundP.next_inj {d : Dia} (h : SoundP d) (a b : Nat) (ha : a < 2 * d.cross.length) (hb : b < 2 * d.cross.length) (e : nextN d a = nextN d b) : a = b := by
  obtain ⟨p, lp, ap, ip⟩ := h.in_at ha true
  obtain ⟨q, lq, aq, iq⟩ := h.in_at hb true
  have e1 := h.nextN_at lp ip
  have e2 := h.nextN_at lq iq
  rw [ap] at e1
  rw [aq] at e2
  have e3 : (V.arcQ d (rotQ 2 p)).toNat = (V.arcQ d (rotQ 2 q)).toNat := e1.symm.trans (e.trans e2)
  have b1 := h.arcQ (rotQ_lt (k := 2) lp)
  have b2 := h.arcQ (rotQ_lt (k := 2) lq)
  have e4 := h.place_unique (rotQ_lt (k := 2) lp) (rotQ_lt (k := 2) lq) (by omega) (by rw [h.inn_rot lp, h.inn_rot lq, ip, iq])
  have e5 : p = q := by rw [← rotQ_22 p, e4, rotQ_22]
  subst e5
  omega
/-- Both arcs of a strand at a crossing lie in one component. -/
theorem SoundP.comp_next {d : Dia} (h : SoundP d) {a : Nat} (ha : a < 2 * d.cross.length) : (compOf d).getD (nextN d a) 0 = (compOf d).getD a 0 := compTo_orb (fun a ha => h.next_lt a ha) (fun a b ha hb => h.next_inj a b ha hb) _ (Nat.le_refl _) a 1 ha
theorem SoundP.comp_rot {d : Dia} (h : SoundP d) {q : Nat} (hq : q < 4 * d.cross.length) : (compOf d).getD (V.arcQ d (rotQ 2 q)).toNat 0 = (compOf d).getD (V.arcQ d q).toNat 0 := by
  cases hi : innQ d q with
  | true =>
    have ha := h.arcQ hq
    rw [← h.nextN_at hq hi, h.comp_next (by omega)]
  | false =>
    have hq2 := rotQ_lt (k := 2) hq
    have ha := h.arcQ hq2
    have := h.nextN_at hq2 (by rw [h.inn_rot hq, hi]; rfl)
    rw [rotQ_22] at this
    rw [← this, h.comp_next (by omega)]
theorem SoundP.comp_lo {d : Dia} (h : SoundP d) {c : Nat} (hc : c < d.cross.length) : (compOf d).getD (crAt d c).a2.toNat 0 = (compOf d).getD (crAt d c).a0.toNat 0 := by
  have := h.comp_rot (q := 4 * c + 0) (by omega)
  simp only [V.arcQ, rotQ_div, rotQ_mod, show (4 * c + 0) / 4 = c by omega, show (4 * c + 0) % 4 = 0 by omega] at this
  exact this
theorem SoundP.comp_hi {d : Dia} (h : SoundP d) {c : Nat} (hc : c < d.cross.length) : (compOf d).getD (crAt d c).a3.toNat 0 = (compOf d).getD (crAt d c).a1.toNat 0 := by
  have := h.comp_rot (q := 4 * c + 1) (by omega)
  simp only [V.arcQ, rotQ_div, rotQ_mod, show (4 * c + 1) / 4 = c by omega, show (4 * c + 1) % 4 = 1 by omega] at this
  exact this
/-! ### Orbits of arcs in diagrams whose arcs may turn -/
theorem orbits_sub {nx nx' : Nat → Nat} {N : Nat} (hlt : ∀ a, a < N → nx a < N) (hlt' : ∀ a, a < N → nx' a < N) (hinj : ∀ a b, a < N → b < N → nx a = nx b → a = b) (h : ∀ a, a < N → nx' a = nx a ∨ nx (nx' a) = a) : ∀ k i, i < N → ∃ m, iter nx' k i = iter nx m i := by
  intro k
  induction k with
  | zero => intro i _; exact ⟨0, rfl⟩
  | succ k ih =>
    intro i hi
    obtain ⟨m, hm⟩ := ih i hi
    have hl := iter_lt hlt' k i hi
    rw [iter_succ]
    rcases h _ hl with e | e
    · exact ⟨m + 1, by rw [e, hm, ← iter_succ nx m i]⟩
    · obtain ⟨j, _, hj⟩ := comes_back hlt hinj (hlt' _ hl)
      refine ⟨j + m, ?_⟩
      have h2 : iter nx (j + 1) (nx' (iter nx' k i)) = iter nx j (nx (nx' (iter nx' k i))) := rfl
      rw [iter_add, ← hm]
      rw [h2, e] at hj
      exact hj.symm
theorem comp_same {d d' : Dia} (h : SoundP d) (h' : SoundP d') (hl : d'.cross.length = d.cross.length) (h1 : ∀ a, a < 2 * d.cross.length → nextN d' a = nextN d a ∨ nextN d (nextN d' a) = a) (h2 : ∀ a, a < 2 * d.cross.length → nextN d a = nextN d' a ∨ nextN d' (nextN d a) = a) : compOf d' = compOf d ∧ compCount d' = compCount d := by
  have lt' : ∀ a, a < 2 * d.cross.length → nextN d' a < 2 * d.cross.length := fun a ha => by rw [← hl]; exact h'.next_lt a (by omega)
  have inj' : ∀ a b, a < 2 * d.cross.length → b < 2 * d.cross.length → nextN d' a = nextN d' b → a = b := fun a b ha hb => h'.next_inj a b (by omega) (by omega)
  have := compTo_congr (nx := nextN d) (nx' := nextN d') (N := 2 * d.cross.length) (fun a ha => h.next_lt a ha) (fun a b ha hb => h.next_inj a b ha hb) lt' (fun i j hi => ⟨fun ⟨m, e⟩ => ?_, fun ⟨m, e⟩ => ?_⟩) _ (Nat.le_refl _)
  · rw [compOf, compOf, compCount, compCount, hl, this]
    exact ⟨rfl, rfl⟩
  · obtain ⟨k, hk⟩ := orbits_sub lt' (fun a ha => h.next_lt a ha) inj' h2 m i hi
    exact ⟨k, e.trans hk⟩
  · obtain ⟨k, hk⟩ := orbits_sub (fun a ha => h.next_lt a ha) lt' (fun a b ha hb => h.next_inj a b ha hb) h1 m i hi
    exact ⟨k, e.trans hk⟩
/-- A relabelling that goes with opposite places keeps components. -/
theorem RelabF.comp {d d' : Dia} {σ : Nat → Nat} {fl : Int → Bool} (r : RelabF d d' σ fl) (h : SoundP d) (hr : ∀ q, q < 4 * d.cross.length → σ (rotQ 2 q) = rotQ 2 (σ q)) (hf : ∀ q, q < 4 * d.cross.length → fl (arcQ d (rotQ 2 q)) = fl (arcQ d q)) : compOf d' = compOf d ∧ compCount d' = compCount d := by
  have h' := r.sound h
  have hl := r.len
  have key : ∀ a, a < 2 * d.cross.length → (fl (a : Int) = false → nextN d' a = nextN d a) ∧ (fl (a : Int) = true → nextN d (nextN d' a) = a ∧ fl (nextN d' a : Int) = true) := fun a ha => by
    obtain ⟨q, lq, aq, iq⟩ := h'.in_at (a := a) (by omega) true
    have lq : q < 4 * d.cross.length := by omega
    have ls := r.lt lq
    have e1 := h'.nextN_at (q := q) (by omega) iq
    have lr := rotQ_lt (k := 2) lq
    have i2 := r.inn q lq
    have a2 := r.arc q lq
    rw [aq] at a2
    rw [iq, ← a2] at i2
    rw [aq, r.arc _ lr, hr q lq] at e1
    have e1 : nextN d' a = (arcQ d (rotQ 2 (σ q))).toNat := e1
    refine ⟨fun hfl => ?_, fun hfl => ?_⟩
    · rw [hfl] at i2
      have i3 : innQ d (σ q) = true := by
        cases hh : innQ d (σ q) with
        | true => rfl
        | false => rw [hh] at i2; exact absurd i2 (by decide)
      have e2 := h.nextN_at ls i3
      rw [← a2] at e2
      exact e1.trans e2.symm
    · rw [hfl] at i2
      have i3 : innQ d (σ q) = false := by
        cases hh : innQ d (σ q) with
        | false => rfl
        | true => rw [hh] at i2; exact absurd i2 (by decide)
      have ls2 := rotQ_lt (k := 2) ls
      have e2 := h.nextN_at ls2 (by rw [h.inn_rot ls, i3]; rfl)
      have b2 := h.arcQ ls2
      refine ⟨by rw [e1, e2, rotQ_22, ← a2]; rfl, ?_⟩
      rw [e1, show (((arcQ d (rotQ 2 (σ q))).toNat : Nat) : Int) = arcQ d (rotQ 2 (σ q)) by omega, hf _ ls, ← a2, hfl]
  refine comp_same h h' hl (fun a ha => ?_) (fun a ha => ?_)
  · cases hfl : fl (a : Int) with
    | false => exact .inl ((key a ha).1 hfl)
    | true => exact .inr ((key a ha).2 hfl).1
  · cases hfl : fl (a : Int) with
    | false => exact .inl ((key a ha).1 hfl).symm
    | true =>
      -- the arc behind a, in d: it turns as well
      right
      have hb := h.next_lt a ha
      obtain ⟨q, lq, aq, iq⟩ := h.in_at ha true
      have e1 := h.nextN_at lq iq
      rw [aq] at e1
      have e1 : nextN d a = (arcQ d (rotQ 2 q)).toNat := e1
      have b1 := h.arcQ (rotQ_lt (k := 2) lq)
      have hfb : fl (nextN d a : Int) = true := by
        rw [e1, show (((arcQ d (rotQ 2 q)).toNat : Nat) : Int) = arcQ d (rotQ 2 q) by omega, hf q lq, aq, hfl]
      have k2 := (key _ hb).2 hfb
      have hc : nextN d' (nextN d a) < 2 * d.cross.length := by have := h'.next_lt (nextN d a) (by omega); omega
      exact h.next_inj _ _ hc ha k2.1
end Go.V
/- Plain laws, part q: mirror images, reflections and reversals are valid; they undo themselves and commute. -/
namespace Go.V
open Go
theorem mapD_mapD (f g : Cr → Cr) (d : Dia) : mapD g (mapD f d) = mapD (fun x => g (f x)) d := by simp [mapD]
theorem mapD_congr {f g : Cr → Cr} {d : Dia} (h : ∀ x ∈ d.cross, f x = g x) : mapD f d = mapD g d := by
  simp only [mapD, Dia.mk.injEq, and_true]
  exact List.map_congr_left h
theorem mapD_same {f : Cr → Cr} {d : Dia} (h : ∀ x ∈ d.cross, f x = x) : mapD f d = d := by
  have : mapD f d = mapD (fun x => x) d := mapD_congr h
  rw [this]; simp [mapD]
theorem mem_at {d : Dia} {x : Cr} (hx : x ∈ d.cross) : ∃ c, c < d.cross.length ∧ crAt d c = x := by
  obtain ⟨c, hc⟩ := List.getElem?_of_mem hx
  exact ⟨c, (List.getElem?_eq_some_iff.1 hc).1, crAt_eq hc⟩
theorem SoundP.sgn_mem {d : Dia} (h : SoundP d) {x : Cr} (hx : x ∈ d.cross) : x.s = 1 ∨ x.s = -1 := (h.2.2.2.1 x hx).1
theorem checkI_of {d : Dia} (h : SoundP d) (hp : PlanarP d) : checkI d = 0 := checkI_ok.2 ⟨h, hp⟩
/-! ### Mirror images -/
theorem mir_mir {x : Cr} (h : x.s = 1 ∨ x.s = -1) : mirCr (mirCr x) = x := by
  obtain ⟨a0, a1, a2, a3, s⟩ := x
  rcases h with h | h <;> simp only at h <;> subst h <;> rfl
theorem mir_sgn {x : Cr} (h : x.s = 1 ∨ x.s = -1) : (mirCr x).s = -x.s := by
  obtain ⟨a0, a1, a2, a3, s⟩ := x
  rcases h with h | h <;> simp only at h <;> subst h <;> rfl
theorem mir_inn {x : Cr} (h : x.s = 1 ∨ x.s = -1) {p : Nat} (hp : p < 4) : (mirCr x).inn p = x.inn ((p + rotK x) % 4) := by
  obtain ⟨a0, a1, a2, a3, s⟩ := x
  rcases h with h | h <;> simp only at h <;> subst h <;> match p, hp with
  | 0, _ => simp [mirCr, rotK, Cr.inn]
  | 1, _ => simp [mirCr, rotK, Cr.inn]
  | 2, _ => simp [mirCr, rotK, Cr.inn]
  | 3, _ => simp [mirCr, rotK, Cr.inn]
theorem sigM_div (d : Dia) (q : Nat) : sigM d q / 4 = q / 4 := by simp only [sigM]; omega
theorem sigM_mod (d : Dia) (q : Nat) : sigM d q % 4 = (q % 4 + rotK (crAt d (q / 4))) % 4 := by simp only [sigM]; omega
theorem sigM_rot (d : Dia) (k q : Nat) : sigM d (rotQ k q) = rotQ k (sigM d q) := by
  have h1 := rotQ_div k q
  have h2 := rotQ_mod k q
  have h3 := sigM_div d q
  have h4 := sigM_mod d q
  simp only [sigM, h1, h2]
  simp only [rotQ]
  omega
theorem relabF_mir {d : Dia} (h : SoundP d) : RelabF d (mirD d) (sigM d) (fun _ => false) where
  toRelab := relab_mir d
  sur q hq := ⟨rotQ (4 - rotK (crAt d (q / 4))) q, by simp only [rotQ]; omega, by
    have : rotK (crAt d (q / 4)) = 3 ∨ rotK (crAt d (q / 4)) = 1 := by simp only [rotK]; split <;> simp
    rw [sigM, rotQ_div, rotQ_mod]
    omega⟩
  inn q hq := by
    have hc : q / 4 < d.cross.length := by omega
    rw [innQ, mirD, crAt_map hc, mir_inn (h.sgn hc) (by omega), innQ, sigM_div, sigM_mod, Bool.xor_false]
  sgn x hx := by
    obtain ⟨y, hy, rfl⟩ := List.mem_map.1 hx
    rw [mir_sgn (h.sgn_mem hy)]
    have := h.sgn_mem hy
    omega
  lps := rfl
theorem mirD_mirD {d : Dia} (h : SoundP d) : mirD (mirD d) = d := by
  rw [mirD, mirD, mapD_mapD]; exact mapD_same fun x hx => mir_mir (h.sgn_mem hx)
theorem mir_sound {d : Dia} (h : SoundP d) : SoundP (mirD d) := (relabF_mir h).sound h
theorem mir_moves {d : Dia} (h : SoundP d) : Moves (mirD d) d (sigM d) := (relab_mir d).moves_rot h (mir_sound h) fun q _ => sigM_rot d 3 q
theorem conn_iff {d d' : Dia} {σ τ : Nat → Nat} (r : Relab d d' σ) (r' : Relab d' d τ) (h : SoundP d) (h' : SoundP d') (a c : Nat) (ha : a < d.cross.length) : Conn d a c ↔ Conn d' a c := ⟨fun k => r'.conn h' h (by rw [r.len]; exact ha) k, fun k => r.conn h h' ha k⟩
theorem mir_planar {d : Dia} (h : SoundP d) (hp : PlanarP d) : PlanarP (mirD d) := by
  have h' := mir_sound h
  have r := relab_mir d
  have r' := relab_mir (mirD d)
  have m' := mir_moves h'
  have e := mirD_mirD h
  rw [show mapD mirCr (mirD d) = d from e] at r'
  rw [e] at m'
  exact planar_of h h' (mapD_len _ _) (conn_iff r r' h h') m' (mir_moves h) hp
theorem mir_comp {d : Dia} (h : SoundP d) : compOf (mirD d) = compOf d ∧ compCount (mirD d) = compCount d := (relabF_mir h).comp h (fun q _ => sigM_rot d 2 q) (fun _ _ => rfl)
/-! ### Reflections -/
theorem ref_ref (x : Cr) : refCr (refCr x) = x := by
  obtain ⟨a0, a1, a2, a3, s⟩ := x
  simp [refCr]
theorem ref_inn {x : Cr} (h : x.s = 1 ∨ x.s = -1) {p : Nat} (hp : p < 4) : (refCr x).inn p = x.inn ((4 - p) % 4) := by
  obtain ⟨a0, a1, a2, a3, s⟩ := x
  rcases h with h | h <;> simp only at h <;> subst h <;> match p, hp with
  | 0, _ => rfl
  | 1, _ => rfl
  | 2, _ => rfl
  | 3, _ => rfl
theorem sigR_div (q : Nat) : sigR q / 4 = q / 4 := by simp only [sigR]; omega
theorem sigR_mod (q : Nat) : sigR q % 4 = (4 - q % 4) % 4 := by simp only [sigR]; omega
theorem relabF_ref {d : Dia} (h : SoundP d) : RelabF d (refD d) sigR (fun _ => false) where
  toRelab := relab_ref d
  sur q hq := ⟨sigR q, by simp only [sigR]; omega, by simp only [sigR]; omega⟩
  inn q hq := by
    have hc : q / 4 < d.cross.length := by omega
    rw [innQ, refD, crAt_map hc, ref_inn (h.sgn hc) (by omega), innQ, sigR_div, sigR_mod, Bool.xor_false]
  sgn x hx := by
    obtain ⟨y, hy, rfl⟩ := List.mem_map.1 hx
    have := h.sgn_mem hy
    show -y.s = 1 ∨ -y.s = -1
    omega
  lps := rfl
theorem refD_refD (d : Dia) : refD (refD d) = d := by
  rw [refD, refD, mapD_mapD]; exact mapD_same fun x _ => ref_ref x
theorem ref_sound {d : Dia} (h : SoundP d) : SoundP (refD d) := (relabF_ref h).sound h
theorem ref_moves {d : Dia} (h : SoundP d) : Moves (refD d) d (fun q => otherQ d (sigR q)) := (relab_ref d).moves_ref h (ref_sound h) fun q _ => by simp only [sigR, rotQ]; omega
theorem ref_planar {d : Dia} (h : SoundP d) (hp : PlanarP d) : PlanarP (refD d) := by
  have h' := ref_sound h
  have r := relab_ref d
  have r' := relab_ref (refD d)
  have m' := ref_moves h'
  have e := refD_refD d
  rw [show mapD refCr (refD d) = d from e] at r'
  rw [e] at m'
  exact planar_of h h' (mapD_len _ _) (conn_iff r r' h h') m' (ref_moves h) hp
theorem ref_comp {d : Dia} (h : SoundP d) : compOf (refD d) = compOf d ∧ compCount (refD d) = compCount d := (relabF_ref h).comp h (fun q _ => by simp only [sigR, rotQ]; omega) (fun _ _ => rfl)
theorem ref_mir {d : Dia} (h : SoundP d) : refD (mirD d) = mirD (refD d) := by
  rw [refD, mirD, mapD_mapD, refD, mirD, mapD_mapD]
  refine mapD_congr fun x hx => ?_
  obtain ⟨a0, a1, a2, a3, s⟩ := x
  rcases h.sgn_mem hx with h | h <;> simp only at h <;> subst h <;> rfl
/-! ### Reversals -/
def revD (d : Dia) (comps : List Int) : Dia := mapD (revCr (compOf d) comps) d
noncomputable def flV (d : Dia) (comps : List Int) (a : Int) : Bool := decide ((compOf d).getD a.toNat 0 ∈ comps)
noncomputable def sigV (d : Dia) (comps : List Int) (q : Nat) : Nat := if flV d comps (crAt d (q / 4)).a0 = true then rotQ 2 q else q
theorem revB_arc {lo hi : Bool} {x : Cr} {p : Nat} (hp : p < 4) : (revB lo hi x).arc p = x.arc (if lo = true then (p + 2) % 4 else p) := by
  cases lo <;> match p, hp with
  | 0, _ => rfl
  | 1, _ => rfl
  | 2, _ => rfl
  | 3, _ => rfl
theorem revB_inn {lo hi : Bool} {x : Cr} (h : x.s = 1 ∨ x.s = -1) {p : Nat} (hp : p < 4) : (revB lo hi x).inn p = (x.inn (if lo = true then (p + 2) % 4 else p) ^^ (if p % 2 = 0 then lo else hi)) := by
  obtain ⟨a0, a1, a2, a3, s⟩ := x
  rcases h with h | h <;> simp only at h <;> subst h <;> cases lo <;> cases hi <;> match p, hp with
  | 0, _ => rfl
  | 1, _ => rfl
  | 2, _ => rfl
  | 3, _ => rfl
theorem sigV_div (d : Dia) (comps : List Int) (q : Nat) : sigV d comps q / 4 = q / 4 := by
  simp only [sigV]; split
  · exact rotQ_div 2 q
  · rfl
theorem sigV_rot (d : Dia) (comps : List Int) (k q : Nat) : sigV d comps (rotQ k q) = rotQ k (sigV d comps q) := by
  simp only [sigV, rotQ_div]
  split
  · simp only [rotQ]; omega
  · rfl
theorem sigV_sigV (d : Dia) (comps : List Int) (q : Nat) : sigV d comps (sigV d comps q) = q := by
  have h := sigV_div d comps q
  by_cases hf : flV d comps (crAt d (q / 4)).a0 = true
  · have e : sigV d comps q = rotQ 2 q := by rw [sigV, if_pos hf]
    rw [e, sigV, rotQ_div, if_pos hf, rotQ_22]
  · have e : sigV d comps q = q := by rw [sigV, if_neg hf]
    rw [e, e]
theorem revCr_eq (d : Dia) (comps : List Int) (x : Cr) : revCr (compOf d) comps x = revB (flV d comps x.a0) (flV d comps x.a1) x := rfl
theorem SoundP.fl_rot {d : Dia} (h : SoundP d) (comps : List Int) {q : Nat} (hq : q < 4 * d.cross.length) : flV d comps (V.arcQ d (rotQ 2 q)) = flV d comps (V.arcQ d q) := by
  simp only [flV, h.comp_rot hq]
theorem relab_rev (d : Dia) (comps : List Int) : Relab d (revD d comps) (sigV d comps) where
  len := mapD_len _ _
  cr q _ := sigV_div d comps q
  inj q q' _ _ e := by rw [← sigV_sigV d comps q, e, sigV_sigV]
  arc q hq := by
    have hc : q / 4 < d.cross.length := by omega
    rw [arcQ, revD, crAt_map hc, revCr_eq, revB_arc (by omega), arcQ, sigV_div]
    congr 1
    simp only [sigV]
    split
    · rw [rotQ_mod]
    · rfl
theorem fl_sig {d : Dia} (h : SoundP d) (comps : List Int) {q : Nat} (hq : q < 4 * d.cross.length) : flV d comps (arcQ d (sigV d comps q)) = flV d comps (arcQ d q) := by
  by_cases hf : flV d comps (crAt d (q / 4)).a0 = true
  · rw [sigV, if_pos hf, h.fl_rot comps hq]
  · rw [sigV, if_neg hf]
theorem fl_par {d : Dia} (h : SoundP d) (comps : List Int) {q : Nat} (hq : q < 4 * d.cross.length) : flV d comps (arcQ d q) = if q % 4 % 2 = 0 then flV d comps (crAt d (q / 4)).a0 else flV d comps (crAt d (q / 4)).a1 := by
  have hc : q / 4 < d.cross.length := by omega
  have h1 := h.comp_lo hc
  have h2 := h.comp_hi hc
  have h4 : q % 4 < 4 := by omega
  rw [arcQ]
  generalize q % 4 = p at h4 ⊢
  match p, h4 with
  | 0, _ => rfl
  | 1, _ => rfl
  | 2, _ => show flV d comps (crAt d (q / 4)).a2 = flV d comps (crAt d (q / 4)).a0; simp only [flV, h1]
  | 3, _ => show flV d comps (crAt d (q / 4)).a3 = flV d comps (crAt d (q / 4)).a1; simp only [flV, h2]
theorem revB_sgn {lo hi : Bool} {x : Cr} (h : x.s = 1 ∨ x.s = -1) : (revB lo hi x).s = 1 ∨ (revB lo hi x).s = -1 := by
  simp only [revB]; split <;> omega
theorem relabF_rev {d : Dia} (h : SoundP d) (comps : List Int) : RelabF d (revD d comps) (sigV d comps) (flV d comps) where
  toRelab := relab_rev d comps
  sur q hq := ⟨sigV d comps q, by have := sigV_div d comps q; omega, sigV_sigV d comps q⟩
  inn q hq := by
    have hc : q / 4 < d.cross.length := by omega
    rw [fl_sig h comps hq, fl_par h comps hq, innQ, revD, crAt_map hc, revCr_eq, revB_inn (h.sgn hc) (by omega), innQ, sigV_div]
    congr 2
    simp only [sigV]
    split
    · rw [rotQ_mod]
    · rfl
  sgn x hx := by
    obtain ⟨y, hy, rfl⟩ := List.mem_map.1 hx
    exact revB_sgn (h.sgn_mem hy)
  lps := rfl
theorem rev_sound {d : Dia} (h : SoundP d) (comps : List Int) : SoundP (revD d comps) := (relabF_rev h comps).sound h
theorem rev_comp {d : Dia} (h : SoundP d) (comps : List Int) : compOf (revD d comps) = compOf d ∧ compCount (revD d comps) = compCount d := (relabF_rev h comps).comp h (fun q _ => sigV_rot d comps 2 q) (fun _ hq => h.fl_rot comps hq)
theorem revB_revB (lo hi : Bool) (x : Cr) : revB lo hi (revB lo hi x) = x := by
  obtain ⟨a0, a1, a2, a3, s⟩ := x
  cases lo <;> cases hi <;> simp [revB]
theorem revD_revD {d : Dia} (h : SoundP d) (comps : List Int) : revD (revD d comps) comps = d := by
  rw [revD, (rev_comp h comps).1, revD, mapD_mapD]
  refine mapD_same fun x hx => ?_
  obtain ⟨c, hc, rfl⟩ := mem_at hx
  have h1 := h.comp_lo hc
  have h2 := h.comp_hi hc
  have key : ∀ lo hi : Bool, (lo = flV d comps (crAt d c).a0) → (hi = flV d comps (crAt d c).a1) → revCr (compOf d) comps (revB lo hi (crAt d c)) = crAt d c := by
    intro lo hi hlo hhi
    rw [revCr_eq]
    have e1 : flV d comps (revB lo hi (crAt d c)).a0 = lo := by
      cases lo with
      | false => exact hlo.symm
      | true => show flV d comps (crAt d c).a2 = true; rw [hlo]; simp only [flV, h1]
    have e2 : flV d comps (revB lo hi (crAt d c)).a1 = hi := by
      cases lo with
      | false => exact hhi.symm
      | true => show flV d comps (crAt d c).a3 = hi; rw [hhi]; simp only [flV, h2]
    rw [e1, e2, revB_revB]
  exact key _ _ rfl rfl
theorem rev_moves {d : Dia} (h : SoundP d) (comps : List Int) : Moves (revD d comps) d (sigV d comps) := (relab_rev d comps).moves_rot h (rev_sound h comps) fun q _ => sigV_rot d comps 3 q
theorem rev_planar {d : Dia} (h : SoundP d) (comps : List Int) (hp : PlanarP d) : PlanarP (revD d comps) := by
  have h' := rev_sound h comps
  have r := relab_rev d comps
  have r' := relab_rev (revD d comps) comps
  have m' := rev_moves h' comps
  have e := revD_revD h comps
  rw [e] at r' m'
  exact planar_of h h' (mapD_len _ _) (conn_iff r r' h h') m' (rev_moves h comps) hp
theorem rev_mir {d : Dia} (h : SoundP d) (comps : List Int) : revD (mirD d) comps = mirD (revD d comps) := by
  rw [revD, (mir_comp h).1, mirD, mapD_mapD, mirD, revD, mapD_mapD]
  refine mapD_congr fun x hx => ?_
  obtain ⟨c, hc, rfl⟩ := mem_at hx
  have h1 := h.comp_lo hc
  have h2 := h.comp_hi hc
  have e0 : flV d comps (crAt d c).a2 = flV d comps (crAt d c).a0 := by simp only [flV, h1]
  have e1 : flV d comps (crAt d c).a3 = flV d comps (crAt d c).a1 := by simp only [flV, h2]
  have hs := h.sgn hc
  rw [revCr_eq, revCr_eq]
  generalize crAt d c = x at e0 e1 hs ⊢
  obtain ⟨a0, a1, a2, a3, s⟩ := x
  simp only at e0 e1 hs
  rcases hs with hs | hs
  · subst hs
    show revB (flV d comps a3) (flV d comps a0) ⟨a3, a0, a1, a2, -1⟩ = mirCr (revB (flV d comps a0) (flV d comps a1) ⟨a0, a1, a2, a3, 1⟩)
    rw [e1]
    cases flV d comps a0 <;> cases flV d comps a1 <;> rfl
  · subst hs
    show revB (flV d comps a1) (flV d comps a2) ⟨a1, a2, a3, a0, 1⟩ = mirCr (revB (flV d comps a0) (flV d comps a1) ⟨a0, a1, a2, a3, -1⟩)
    rw [e0]
    cases flV d comps a0 <;> cases flV d comps a1 <;> rfl
/-- What the program works out with marks is the reversal. -/
theorem rev_marks {d : Dia} (h : SoundP d) (comps : List Int) : mapD (fun x => revB ((markB comps (compCount d + d.loops.toNat) comps.length).getD ((compOf d).getD x.a0.toNat 0).toNat false) ((markB comps (compCount d + d.loops.toNat) comps.length).getD ((compOf d).getD x.a1.toNat 0).toNat false) x) d = revD d comps := by
  refine mapD_congr fun x hx => ?_
  have key : ∀ a : Int, 0 ≤ a → a < 2 * d.cross.length → (markB comps (compCount d + d.loops.toNat) comps.length).getD ((compOf d).getD a.toNat 0).toNat false = flV d comps a := fun a h0 h1 => by
    have hl : a.toNat < (compOf d).length := by rw [compOf_len]; omega
    have hm : (compOf d).getD a.toNat 0 ∈ compOf d := List.mem_of_getElem? (getD_get hl 0)
    obtain ⟨g0, g1⟩ := comp_range h hm (comp_nonneg hm)
    rw [List.getD_eq_getElem?_getD, markB_get (by omega), List.take_length, show ((((compOf d).getD a.toNat 0).toNat : Nat) : Int) = (compOf d).getD a.toNat 0 by omega]
    rfl
  have hb := (h.2.2.2.1 x hx).2
  have b0 := hb 0 (by omega)
  have b1 := hb 1 (by omega)
  show revB _ _ x = revB _ _ x
  rw [key x.a0 b0.1 b0.2, key x.a1 b1.1 b1.2]
  rfl
end Go.V
/- Plain laws, part r: classes of equivalences, counted; permutations and their orbits; the bound of Euler's number. -/
namespace Go.V
open Go
/-! ### Counting classes -/
noncomputable def repB (R : Nat → Nat → Prop) (P : Nat → Prop) (x : Nat) : Bool := @decide (P x ∧ ∀ y, y < x → P y → ¬ R y x) (Classical.propDecidable _)
theorem repB_iff {R : Nat → Nat → Prop} {P : Nat → Prop} {x : Nat} : repB R P x = true ↔ P x ∧ ∀ y, y < x → P y → ¬ R y x := @decide_eq_true_iff _ (Classical.propDecidable _)
/-- How many classes of R there are among the numbers below N with P. -/
noncomputable def ncl (R : Nat → Nat → Prop) (P : Nat → Prop) (N : Nat) : Nat := ((List.range N).filter (repB R P)).length
/-- R is an equivalence on what has P. -/
structure Eqv (R : Nat → Nat → Prop) (P : Nat → Prop) : Prop where
  refl : ∀ x, P x → R x x
  symm : ∀ x y, P x → P y → R x y → R y x
  trans : ∀ x y z, P x → P y → P z → R x y → R y z → R x z
theorem Eqv.rep {R : Nat → Nat → Prop} {P : Nat → Prop} (e : Eqv R P) : ∀ x, P x → ∃ y, y ≤ x ∧ repB R P y = true ∧ R y x := by
  intro x
  induction x using Nat.strongRecOn with
  | ind x ih =>
    intro hx
    by_cases h : ∃ y, y < x ∧ P y ∧ R y x
    · obtain ⟨y, hy, hp, hr⟩ := h
      obtain ⟨z, hz, h1, h2⟩ := ih y hy hp
      exact ⟨z, by omega, h1, e.trans z y x (repB_iff.1 h1).1 hp hx h2 hr⟩
    · exact ⟨x, Nat.le_refl _, repB_iff.2 ⟨hx, fun y hy hp hr => h ⟨y, hy, hp, hr⟩⟩, e.refl x hx⟩
/-- Classes go to classes apart. -/
theorem ncl_le_of {R R' : Nat → Nat → Prop} {P P' : Nat → Prop} {N N' : Nat} (e' : Eqv R' P') (T : Nat → Nat → Prop) (ht : ∀ x, x < N → P x → ∃ x', x' < N' ∧ P' x' ∧ T x x')
    (hi : ∀ x y x' y', P x → P y → P' x' → P' y' → T x x' → T y y' → R' x' y' → R x y) : ncl R P N ≤ ncl R' P' N' := by
  refine inj_len (fun x b => ∃ x', P' x' ∧ T x x' ∧ R' b x') _ _ (fun x hx => ?_) ?_
  · obtain ⟨hx, hr⟩ := List.mem_filter.1 hx
    obtain ⟨x', hx', hp', t⟩ := ht x (List.mem_range.1 hx) (repB_iff.1 hr).1
    obtain ⟨b, hb, h1, h2⟩ := e'.rep x' hp'
    exact ⟨b, List.mem_filter.2 ⟨List.mem_range.2 (by omega), h1⟩, x', hp', t, h2⟩
  · refine List.Pairwise.imp_of_mem ?_ (List.Pairwise.filter _ List.pairwise_lt_range)
    intro x y hx hy hxy b hb ⟨x', px, tx, rx⟩ ⟨y', py, ty, ry⟩
    have hx := repB_iff.1 (List.mem_filter.1 hx).2
    have hy := repB_iff.1 (List.mem_filter.1 hy).2
    have pb := (repB_iff.1 (List.mem_filter.1 hb).2).1
    exact hy.2 x hxy hx.1 (hi x y x' y' hx.1 hy.1 px py tx ty (e'.trans _ _ _ px pb py (e'.symm _ _ pb px rx) ry))
theorem filter_split {α : Type} (p q r : α → Bool) (l : List α) (h : ∀ x ∈ l, p x = (q x || r x)) (h2 : ∀ x ∈ l, ¬ (q x = true ∧ r x = true)) : (l.filter p).length = (l.filter q).length + (l.filter r).length := by
  induction l with
  | nil => rfl
  | cons x l ih =>
    have ih := ih (fun y hy => h y (List.mem_cons_of_mem _ hy)) (fun y hy => h2 y (List.mem_cons_of_mem _ hy))
    have hx := h x List.mem_cons_self
    have hx2 := h2 x List.mem_cons_self
    simp only [List.filter_cons]
    cases hq : q x <;> cases hr : r x <;> simp_all <;> omega
/-- Classes of two kinds. -/
theorem ncl_split {R : Nat → Nat → Prop} {P : Nat → Prop} {N : Nat} (Q : Nat → Prop) (hq : ∀ x y, P x → P y → R x y → (Q x ↔ Q y)) : ncl R P N = ncl R (fun x => P x ∧ Q x) N + ncl R (fun x => P x ∧ ¬ Q x) N := by
  refine filter_split _ _ _ _ (fun x _ => ?_) (fun x _ h => ?_)
  · rw [Bool.eq_iff_iff, Bool.or_eq_true, repB_iff, repB_iff, repB_iff]
    constructor
    · rintro ⟨hp, hr⟩
      by_cases h : Q x
      · exact .inl ⟨⟨hp, h⟩, fun y hy hpy => hr y hy hpy.1⟩
      · exact .inr ⟨⟨hp, h⟩, fun y hy hpy => hr y hy hpy.1⟩
    · rintro (⟨⟨hp, h⟩, hr⟩ | ⟨⟨hp, h⟩, hr⟩)
      · exact ⟨hp, fun y hy hpy k => hr y hy ⟨hpy, (hq y x hpy hp k).2 h⟩ k⟩
      · exact ⟨hp, fun y hy hpy k => hr y hy ⟨hpy, fun q => h ((hq y x hpy hp k).1 q)⟩ k⟩
  · exact (repB_iff.1 h.2).1.2 (repB_iff.1 h.1).1.2
theorem ncl_congr {R R' : Nat → Nat → Prop} {P P' : Nat → Prop} {N : Nat} (hp : ∀ x, x < N → (P x ↔ P' x)) (hr : ∀ x y, x < N → y < N → P x → P y → (R x y ↔ R' x y)) : ncl R P N = ncl R' P' N := by
  refine congrArg List.length (List.filter_congr fun x hx => ?_)
  have hx := List.mem_range.1 hx
  rw [Bool.eq_iff_iff, repB_iff, repB_iff]
  constructor
  · rintro ⟨h1, h2⟩
    refine ⟨(hp x hx).1 h1, fun y hy py k => ?_⟩
    have py := (hp y (by omega)).2 py
    exact h2 y hy py ((hr y x (by omega) hx py h1).2 k)
  · rintro ⟨h1, h2⟩
    have h1 := (hp x hx).2 h1
    exact ⟨h1, fun y hy py k => h2 y hy ((hp y (by omega)).1 py) ((hr y x (by omega) hx py h1).1 k)⟩
theorem ncl_one {R : Nat → Nat → Prop} {P : Nat → Prop} {N b : Nat} (e : Eqv R P) (hb : b < N) (pb : P b) (h : ∀ x, x < N → P x → R b x) : ncl R P N = 1 := by
  obtain ⟨y, hy, hr, k⟩ := e.rep b pb
  have hl : (List.range N).filter (repB R P) = [y] := by
    have hy2 : y ∈ (List.range N).filter (repB R P) := List.mem_filter.2 ⟨List.mem_range.2 (by omega), hr⟩
    have hn : ((List.range N).filter (repB R P)).Pairwise (· < ·) := List.Pairwise.filter _ List.pairwise_lt_range
    have hu : ∀ z ∈ (List.range N).filter (repB R P), z = y := fun z hz => by
      obtain ⟨h1, h2⟩ := List.mem_filter.1 hz
      have h1 := List.mem_range.1 h1
      have h2 := repB_iff.1 h2
      have h3 := repB_iff.1 hr
      have r1 : R y z := e.trans _ _ _ h3.1 pb h2.1 k (h z h1 h2.1)
      rcases Nat.lt_trichotomy y z with h4 | h4 | h4
      · exact absurd r1 (h2.2 y h4 h3.1)
      · exact h4.symm
      · exact absurd (e.symm _ _ h3.1 h2.1 r1) (h3.2 z h4 h2.1)
    cases hL : (List.range N).filter (repB R P) with
    | nil => rw [hL] at hy2; cases hy2
    | cons a l =>
      rw [hL] at hu hn
      have ha := hu a List.mem_cons_self
      subst ha
      cases l with
      | nil => rfl
      | cons b l =>
        have hb2 := hu b (List.mem_cons_of_mem _ List.mem_cons_self)
        have := (List.pairwise_cons.1 hn).1 b List.mem_cons_self
        omega
  rw [ncl, hl]; rfl
theorem Eqv.sub {R : Nat → Nat → Prop} {P P' : Nat → Prop} (e : Eqv R P) (h : ∀ x, P' x → P x) : Eqv R P' := ⟨fun x hx => e.refl x (h x hx), fun x y hx hy => e.symm x y (h x hx) (h y hy), fun x y z hx hy hz => e.trans x y z (h x hx) (h y hy) (h z hz)⟩
/-- The class of b, and the others. -/
theorem ncl_but {R : Nat → Nat → Prop} {P : Nat → Prop} {N b : Nat} (e : Eqv R P) (hb : b < N) (pb : P b) : ncl R P N = 1 + ncl R (fun x => P x ∧ ¬ R x b) N := by
  rw [ncl_split (fun x => R x b) (fun x y px py k => ⟨fun h => e.trans _ _ _ py px pb (e.symm _ _ px py k) h, fun h => e.trans _ _ _ px py pb k h⟩)]
  congr 1
  exact ncl_one (b := b) (e.sub fun x h => h.1) hb ⟨pb, e.refl b pb⟩ fun x _ hx => e.symm _ _ hx.1 pb hx.2
/-- Two classes made one. -/
def glue (R : Nat → Nat → Prop) (a b : Nat) (x y : Nat) : Prop := R x y ∨ (R x a ∧ R b y) ∨ (R x b ∧ R a y)
theorem Eqv.glue {R : Nat → Nat → Prop} {P : Nat → Prop} (e : Eqv R P) {a b : Nat} (pa : P a) (pb : P b) : Eqv (V.glue R a b) P where
  refl x hx := .inl (e.refl x hx)
  symm x y hx hy h := by
    rcases h with h | ⟨h1, h2⟩ | ⟨h1, h2⟩
    · exact .inl (e.symm _ _ hx hy h)
    · exact .inr (.inr ⟨e.symm _ _ pb hy h2, e.symm _ _ hx pa h1⟩)
    · exact .inr (.inl ⟨e.symm _ _ pa hy h2, e.symm _ _ hx pb h1⟩)
  trans x y z hx hy hz h k := by
    rcases h with h | ⟨h1, h2⟩ | ⟨h1, h2⟩ <;> rcases k with k | ⟨k1, k2⟩ | ⟨k1, k2⟩
    · exact .inl (e.trans _ _ _ hx hy hz h k)
    · exact .inr (.inl ⟨e.trans _ _ _ hx hy pa h k1, k2⟩)
    · exact .inr (.inr ⟨e.trans _ _ _ hx hy pb h k1, k2⟩)
    · exact .inr (.inl ⟨h1, e.trans _ _ _ pb hy hz h2 k⟩)
    · exact .inr (.inl ⟨h1, k2⟩)
    · exact .inl (e.trans _ _ _ hx pa hz h1 k2)
    · exact .inr (.inr ⟨h1, e.trans _ _ _ pa hy hz h2 k⟩)
    · exact .inl (e.trans _ _ _ hx pb hz h1 k2)
    · exact .inr (.inr ⟨h1, k2⟩)
theorem ncl_glue_ge {R R' : Nat → Nat → Prop} {P : Nat → Prop} {N a b : Nat} (e : Eqv R P) (e' : Eqv R' P) (_ : P a) (hb : b < N) (pb : P b) (h : ∀ x y, P x → P y → R' x y → glue R a b x y) : ncl R P N ≤ ncl R' P N + 1 := by
  rw [ncl_but e hb pb, Nat.add_comm]
  refine Nat.add_le_add_right (ncl_le_of e' (fun x x' => x = x') (fun x hx px => ⟨x, hx, px.1, rfl⟩) ?_) 1
  rintro x y x' y' px py _ _ rfl rfl hr
  rcases h x y px.1 py.1 hr with h | ⟨_, h2⟩ | ⟨h1, _⟩
  · exact h
  · exact absurd (e.symm _ _ pb py.1 h2) py.2
  · exact absurd h1 px.2
theorem ncl_coarse {R R' : Nat → Nat → Prop} {P : Nat → Prop} {N : Nat} (e : Eqv R P) (h : ∀ x y, P x → P y → R x y → R' x y) : ncl R' P N ≤ ncl R P N :=
  ncl_le_of e (fun x x' => x = x') (fun x hx px => ⟨x, hx, px, rfl⟩) (by rintro x y x' y' px py _ _ rfl rfl hr; exact h x y px py hr)
theorem ncl_glue_lt {R R' : Nat → Nat → Prop} {P : Nat → Prop} {N a b : Nat} (e : Eqv R P) (e' : Eqv R' P) (ha : a < N) (pa : P a) (hb : b < N) (pb : P b) (hn : ¬ R a b) (hR : ∀ x y, P x → P y → R x y → R' x y) (hab : R' a b) : ncl R' P N + 1 ≤ ncl R P N := by
  rw [ncl_but e hb pb, Nat.add_comm]
  refine Nat.add_le_add_left (ncl_le_of (e.sub fun x h => h.1) (fun x x' => R' x x' ∧ P x') (fun x hx px => ?_) ?_) 1
  · by_cases hx2 : R x b
    · exact ⟨a, ha, ⟨pa, hn⟩, e'.trans _ _ _ px pb pa (hR _ _ px pb hx2) (e'.symm _ _ pa pb hab), pa⟩
    · exact ⟨x, hx, ⟨px, hx2⟩, e'.refl x px, px⟩
  · rintro x y x' y' px py ⟨px', _⟩ ⟨py', _⟩ ⟨tx, _⟩ ⟨ty, _⟩ hr
    exact e'.trans _ _ _ px px' py tx (e'.trans _ _ _ px' py' py (hR _ _ px' py' hr) (e'.symm _ _ py py' ty))
/-! ### Permutations -/
/-- f permutes what has P; all of it lies below N. -/
structure Perm (f : Nat → Nat) (P : Nat → Prop) (N : Nat) : Prop where
  lt : ∀ x, P x → x < N
  into : ∀ x, P x → P (f x)
  inj : ∀ x y, P x → P y → f x = f y → x = y
def OrbF (f : Nat → Nat) (x y : Nat) : Prop := ∃ k, y = iter f k x
theorem Perm.iter {f : Nat → Nat} {P : Nat → Prop} {N : Nat} (h : Perm f P N) {x : Nat} (hx : P x) : ∀ k, P (V.iter f k x)
  | 0 => hx
  | k + 1 => by rw [iter_succ]; exact h.into _ (h.iter hx k)
theorem Perm.back {f : Nat → Nat} {P : Nat → Prop} {N : Nat} (h : Perm f P N) {x : Nat} (hx : P x) : ∃ j, V.iter f (j + 1) x = x := by
  -- outside of P the map stays where it is
  have hg : ∀ k y, P y → V.iter (fun z => @ite _ (P z) (Classical.propDecidable _) (f z) z) k y = V.iter f k y := by
    intro k
    induction k with
    | zero => intro y _; rfl
    | succ k ih => intro y hy; rw [iter_succ, iter_succ, ih y hy, if_pos (h.iter hy k)]
  obtain ⟨j, _, hj⟩ := comes_back (f := fun z => @ite _ (P z) (Classical.propDecidable _) (f z) z) (N := N) (fun z hz => by
    split
    · rename_i hp; exact h.lt _ (h.into _ hp)
    · exact hz) (fun y z _ _ e => by
    split at e
    · split at e
      · rename_i h1 h2; exact h.inj _ _ h1 h2 e
      · rename_i h1 h2; exact absurd (e ▸ h.into _ h1) h2
    · split at e
      · rename_i h1 h2; exact absurd (e ▸ h.into _ h2) h1
      · exact e) (h.lt x hx)
  rw [hg _ _ hx] at hj
  exact ⟨j, hj⟩
theorem Perm.orb_symm {f : Nat → Nat} {P : Nat → Prop} {N : Nat} (h : Perm f P N) {x y : Nat} (hx : P x) (o : OrbF f x y) : OrbF f y x := by
  obtain ⟨k, rfl⟩ := o
  induction k with
  | zero => exact ⟨0, rfl⟩
  | succ k ih =>
    obtain ⟨m, hm⟩ := ih
    obtain ⟨j, hj⟩ := h.back (h.iter hx k)
    refine ⟨m + j, ?_⟩
    rw [iter_add, iter_succ]
    have : V.iter f j (f (V.iter f k x)) = V.iter f (j + 1) (V.iter f k x) := rfl
    rw [this, hj]; exact hm
theorem orb_trans {f : Nat → Nat} {x y z : Nat} (a : OrbF f x y) (b : OrbF f y z) : OrbF f x z := by
  obtain ⟨i, rfl⟩ := a
  obtain ⟨j, rfl⟩ := b
  exact ⟨j + i, by rw [iter_add]⟩
theorem Perm.eqv {f : Nat → Nat} {P : Nat → Prop} {N : Nat} (h : Perm f P N) : Eqv (OrbF f) P := ⟨fun _ _ => ⟨0, rfl⟩, fun _ _ hx _ o => h.orb_symm hx o, fun _ _ _ _ _ _ a b => orb_trans a b⟩
def swp (a b q : Nat) : Nat := if q = a then b else if q = b then a else q
theorem swp_a (a b : Nat) : swp a b a = b := by simp [swp]
theorem swp_b (a b : Nat) : swp a b b = a := by simp only [swp]; split <;> simp_all
theorem swp_o {a b q : Nat} (h : q ≠ a) (k : q ≠ b) : swp a b q = q := by simp [swp, h, k]
theorem swp_swp (a b q : Nat) : swp a b (swp a b q) = q := by
  by_cases h : q = a
  · subst h; rw [swp_a, swp_b]
  · by_cases k : q = b
    · subst k; rw [swp_b, swp_a]
    · rw [swp_o h k, swp_o h k]
theorem Perm.swap {f : Nat → Nat} {P : Nat → Prop} {N : Nat} (h : Perm f P N) {a b : Nat} (pa : P a) (pb : P b) : Perm (fun q => f (swp a b q)) P N := by
  have hp : ∀ q, P q → P (swp a b q) := fun q hq => by simp only [swp]; split; exact pb; split; exact pa; exact hq
  exact ⟨h.lt, fun x hx => h.into _ (hp x hx), fun x y hx hy e => by rw [← swp_swp a b x, h.inj _ _ (hp x hx) (hp y hy) e, swp_swp]⟩
/-- Orbits behind a swap lie in orbits, of which two are made one. -/
theorem Perm.swap_glue {f : Nat → Nat} {P : Nat → Prop} {N : Nat} (h : Perm f P N) {a b : Nat} (pa : P a) (pb : P b) {x y : Nat} (hx : P x) (o : OrbF (fun q => f (swp a b q)) x y) : glue (OrbF f) a b x y := by
  obtain ⟨k, rfl⟩ := o
  have e := h.eqv.glue pa pb
  have hs := h.swap pa pb
  induction k with
  | zero => exact e.refl x hx
  | succ k ih =>
    have pk := hs.iter hx k
    rw [iter_succ]
    refine e.trans _ _ _ hx pk (hs.into _ pk) ih ?_
    generalize V.iter (fun q => f (swp a b q)) k x = z at pk ⊢
    by_cases h1 : z = a
    · subst h1; rw [swp_a]; exact .inr (.inl ⟨⟨0, rfl⟩, 1, rfl⟩)
    · by_cases h2 : z = b
      · subst h2; rw [swp_b]; exact .inr (.inr ⟨⟨0, rfl⟩, 1, rfl⟩)
      · rw [swp_o h1 h2]; exact .inl ⟨1, rfl⟩
theorem Perm.glue_swap {f : Nat → Nat} {P : Nat → Prop} {N : Nat} (h : Perm f P N) {a b : Nat} (pa : P a) (pb : P b) {x y : Nat} (hx : P x) (o : OrbF f x y) : glue (OrbF (fun q => f (swp a b q))) a b x y := by
  refine (h.swap pa pb).swap_glue pa pb hx ?_
  obtain ⟨k, rfl⟩ := o
  refine ⟨k, ?_⟩
  have : (fun q => (fun q => f (swp a b q)) (swp a b q)) = f := funext fun q => by show f (swp a b (swp a b q)) = f q; rw [swp_swp]
  rw [this]
theorem glue_ab {R : Nat → Nat → Prop} {P : Nat → Prop} (e : Eqv R P) {a b : Nat} (pa : P a) (pb : P b) : glue R a b a b := .inr (.inl ⟨e.refl a pa, e.refl b pb⟩)
theorem glue_of {R R' : Nat → Nat → Prop} {P : Nat → Prop} (e' : Eqv R' P) {a b : Nat} (pa : P a) (pb : P b) (hab : R' a b) (hR : ∀ x y, P x → P y → R x y → R' x y) {x y : Nat} (hx : P x) (hy : P y) (g : glue R a b x y) : R' x y := by
  rcases g with g | ⟨g1, g2⟩ | ⟨g1, g2⟩
  · exact hR _ _ hx hy g
  · exact e'.trans _ _ _ hx pa hy (hR _ _ hx pa g1) (e'.trans _ _ _ pa pb hy hab (hR _ _ pb hy g2))
  · exact e'.trans _ _ _ hx pb hy (hR _ _ hx pb g1) (e'.trans _ _ _ pb pa hy (e'.symm _ _ pa pb hab) (hR _ _ pa hy g2))
/-- A swap makes at most one orbit more. -/
theorem Perm.swap_le {f : Nat → Nat} {P : Nat → Prop} {N : Nat} (h : Perm f P N) {a b : Nat} (pa : P a) (pb : P b) : ncl (OrbF (fun q => f (swp a b q))) P N ≤ ncl (OrbF f) P N + 1 := by
  have hs := h.swap pa pb
  refine Nat.le_trans (ncl_glue_ge (a := a) (b := b) hs.eqv (h.eqv.glue pa pb) pa (h.lt b pb) pb (fun x y hx hy g => ?_)) (Nat.add_le_add_right (ncl_coarse h.eqv fun x y _ _ r => .inl r) 1)
  exact glue_of (hs.eqv.glue pa pb) pa pb (glue_ab hs.eqv pa pb) (fun u v hu _ r => h.glue_swap pa pb hu r) hx hy g
/-- A swap of places in two orbits makes one of both. -/
theorem Perm.swap_lt {f : Nat → Nat} {P : Nat → Prop} {N : Nat} (h : Perm f P N) {a b : Nat} (pa : P a) (pb : P b) (hn : ¬ OrbF f a b) : OrbF (fun q => f (swp a b q)) a b ∧ ncl (OrbF (fun q => f (swp a b q))) P N + 1 = ncl (OrbF f) P N := by
  have hs := h.swap pa pb
  have hab : OrbF (fun q => f (swp a b q)) a b := by
    -- from a the walk is at f b and goes on to b
    obtain ⟨j, hj⟩ := h.back pb
    have key : ∀ k, OrbF (fun q => f (swp a b q)) a (V.iter f k (f b)) ∨ OrbF (fun q => f (swp a b q)) a b := fun k => by
      induction k with
      | zero => exact .inl ⟨1, by show f b = f (swp a b a); rw [swp_a]⟩
      | succ k ih =>
        rcases ih with ih | ih
        · by_cases h1 : V.iter f k (f b) = b
          · rw [h1] at ih; exact .inr ih
          · have h2 : V.iter f k (f b) ≠ a := fun e2 => hn (h.orb_symm pb ⟨k + 1, e2.symm⟩)
            exact .inl (orb_trans ih ⟨1, by show _ = f (swp a b (V.iter f k (f b))); rw [swp_o h2 h1, iter_succ]⟩)
        · exact .inr ih
    rcases key j with h1 | h1
    · have : V.iter f j (f b) = b := hj
      rw [this] at h1; exact h1
    · exact h1
  refine ⟨hab, Nat.le_antisymm (ncl_glue_lt h.eqv hs.eqv (h.lt a pa) pa (h.lt b pb) pb hn (fun x y hx hy r => ?_) hab) (ncl_glue_ge (a := a) (b := b) h.eqv hs.eqv pa (h.lt b pb) pb fun x y hx _ r => h.swap_glue pa pb hx r)⟩
  exact glue_of hs.eqv pa pb hab (fun u v _ _ r => r) hx hy (h.glue_swap pa pb hx r)
end Go.V
/- Plain laws, part s: the bound of Euler's number: with pairs of places joined, orbits of both permutations are at most as many as pairs, and two for each part. -/
namespace Go.V
open Go
theorem orbF_congr {f g : Nat → Nat} {P : Nat → Prop} {N : Nat} (h : Perm f P N) (e : ∀ x, P x → f x = g x) {x y : Nat} (hx : P x) : OrbF f x y ↔ OrbF g x y := by
  have key : ∀ k, iter g k x = iter f k x := fun k => by
    induction k with
    | zero => rfl
    | succ k ih => rw [iter_succ, iter_succ, ih, e _ (h.iter hx k)]
  exact ⟨fun ⟨k, hk⟩ => ⟨k, hk.trans (key k).symm⟩, fun ⟨k, hk⟩ => ⟨k, hk.trans (key k)⟩⟩
theorem Perm.congr {f g : Nat → Nat} {P : Nat → Prop} {N : Nat} (h : Perm f P N) (e : ∀ x, P x → f x = g x) : Perm g P N := ⟨h.lt, fun x hx => e x hx ▸ h.into x hx, fun x y hx hy k => h.inj x y hx hy (by rw [e x hx, e y hy, k])⟩
theorem ncl_orb_congr {f g : Nat → Nat} {P : Nat → Prop} {N : Nat} (h : Perm f P N) (e : ∀ x, P x → f x = g x) : ncl (OrbF f) P N = ncl (OrbF g) P N :=
  ncl_congr (fun _ _ => Iff.rfl) fun _ _ _ _ hx _ => orbF_congr h e hx
/-- α joins the places of P in pairs. -/
structure Pairs (α : Nat → Nat) (P : Nat → Prop) : Prop where
  into : ∀ q, P q → P (α q)
  back : ∀ q, P q → α (α q) = q
  ne : ∀ q, P q → α q ≠ q
def aK (α : Nat → Nat) (k q : Nat) : Nat := if min q (α q) < k then α q else q
theorem aK_zero (α : Nat → Nat) (q : Nat) : aK α 0 q = q := by simp [aK]
theorem aK_all {α : Nat → Nat} {N q : Nat} (h : q < N) : aK α N q = α q := by rw [aK, if_pos (by omega)]
theorem aK_step {α : Nat → Nat} {P : Nat → Prop} (h : Pairs α P) {k : Nat} (hk : P k) (hl : k < α k) {q : Nat} (hq : P q) : aK α (k + 1) q = aK α k (swp k (α k) q) := by
  have hb := h.back k hk
  by_cases e : q = k
  · subst e
    rw [swp_a, aK, aK, if_pos (by omega), hb, if_neg (by omega)]
  · by_cases e2 : q = α k
    · subst e2
      rw [swp_b, aK, aK, hb, if_pos (by omega), if_neg (by omega)]
    · rw [swp_o e e2, aK, aK]
      have hb2 := h.back q hq
      have hne : α q ≠ k := fun e3 => e2 (by rw [← e3, hb2])
      by_cases h1 : min q (α q) < k
      · rw [if_pos h1, if_pos (by omega)]
      · rw [if_neg h1, if_neg (by omega)]
theorem aK_keep {α : Nat → Nat} {P : Nat → Prop} (h : Pairs α P) {k : Nat} (hk : ¬ (P k ∧ k < α k)) {q : Nat} (hq : P q) : aK α (k + 1) q = aK α k q := by
  have hb := h.back q hq
  have hn := h.ne q hq
  have hp := h.into q hq
  rw [aK, aK]
  by_cases h1 : min q (α q) < k
  · rw [if_pos h1, if_pos (by omega)]
  · rw [if_neg h1, if_neg]
    intro h2
    apply hk
    rcases Nat.lt_or_ge q (α q) with h3 | h3
    · obtain rfl : q = k := by omega
      exact ⟨hq, h3⟩
    · obtain e : α q = k := by omega
      subst e
      exact ⟨hp, by rw [hb]; omega⟩
/-- What is joined by the permutation and by the first pairs. -/
noncomputable def cRel (ρ α : Nat → Nat) (P : Nat → Prop) : Nat → Nat → Nat → Prop
  | 0 => OrbF ρ
  | k + 1 => @ite _ (P k ∧ k < α k) (Classical.propDecidable _) (glue (cRel ρ α P k) k (α k)) (cRel ρ α P k)
noncomputable def tb (p : Prop) : Bool := @decide p (Classical.propDecidable _)
theorem tb_iff {p : Prop} : tb p = true ↔ p := @decide_eq_true_iff _ (Classical.propDecidable _)
noncomputable def ePairs (α : Nat → Nat) (P : Nat → Prop) (N : Nat) : Nat := ((List.range N).filter fun q => tb (P q ∧ q < α q)).length
noncomputable def cardP (P : Nat → Prop) (N : Nat) : Nat := ((List.range N).filter fun q => tb (P q)).length
theorem ePairs_succ (α : Nat → Nat) (P : Nat → Prop) (k : Nat) : ePairs α P (k + 1) = ePairs α P k + @ite _ (P k ∧ k < α k) (Classical.propDecidable _) 1 0 := by
  simp only [ePairs, List.range_succ, List.filter_append, List.length_append, List.filter_cons, List.filter_nil]
  by_cases h : P k ∧ k < α k
  · rw [if_pos (tb_iff.2 h), if_pos h]; rfl
  · rw [if_neg (fun k => h (tb_iff.1 k)), if_neg h]; rfl
theorem cRel_eqv {ρ α : Nat → Nat} {P : Nat → Prop} {N : Nat} (hρ : Perm ρ P N) (h : Pairs α P) : ∀ k, Eqv (cRel ρ α P k) P
  | 0 => hρ.eqv
  | k + 1 => by
    by_cases hk : P k ∧ k < α k
    · rw [cRel, if_pos hk]; exact (cRel_eqv hρ h k).glue hk.1 (h.into k hk.1)
    · rw [cRel, if_neg hk]; exact cRel_eqv hρ h k
theorem cRel_mono {ρ α : Nat → Nat} {P : Nat → Prop} {x y : Nat} (k : Nat) (c : cRel ρ α P k x y) : cRel ρ α P (k + 1) x y := by
  by_cases hk : P k ∧ k < α k
  · rw [cRel, if_pos hk]; exact .inl c
  · rw [cRel, if_neg hk]; exact c
theorem cRel_le {ρ α : Nat → Nat} {P : Nat → Prop} {x y : Nat} {k : Nat} (c : cRel ρ α P k x y) : ∀ m, cRel ρ α P (k + m) x y
  | 0 => c
  | m + 1 => cRel_mono _ (cRel_le c m)
theorem cRel_rho {ρ α : Nat → Nat} {P : Nat → Prop} {x : Nat} (N : Nat) : cRel ρ α P N x (ρ x) := by
  have : cRel ρ α P (0 + N) x (ρ x) := cRel_le (k := 0) (show OrbF ρ x (ρ x) from ⟨1, rfl⟩) N
  rwa [Nat.zero_add] at this
theorem cRel_alpha {ρ α : Nat → Nat} {P : Nat → Prop} {N : Nat} (hρ : Perm ρ P N) (h : Pairs α P) {x : Nat} (hx : P x) : cRel ρ α P N x (α x) := by
  have key : ∀ k, P k → k < α k → cRel ρ α P N k (α k) := fun k pk hl => by
    have h1 : cRel ρ α P (k + 1) k (α k) := by rw [cRel, if_pos ⟨pk, hl⟩]; exact glue_ab (cRel_eqv hρ h k) pk (h.into k pk)
    have h2 := cRel_le h1 (N - (k + 1))
    have := hρ.lt k pk
    rwa [show k + 1 + (N - (k + 1)) = N by omega] at h2
  have e := cRel_eqv hρ h N
  rcases Nat.lt_or_ge x (α x) with h1 | h1
  · exact key x hx h1
  · have h2 := h.ne x hx
    have h3 := key (α x) (h.into x hx) (by rw [h.back x hx]; omega)
    rw [h.back x hx] at h3
    exact e.symm _ _ (h.into x hx) hx h3
theorem cRel_into {ρ α : Nat → Nat} {P : Nat → Prop} {N : Nat} (h : Pairs α P) {R : Nat → Nat → Prop} (e : Eqv R P) (h1 : ∀ x, P x → R x (ρ x)) (hi : ∀ x, P x → P (ρ x)) (h2 : ∀ x, P x → R x (α x)) : ∀ k x y, P x → P y → cRel ρ α P k x y → R x y
  | 0, x, y, hx, _, ⟨m, hm⟩ => by
    subst hm
    have key : ∀ m, P (iter ρ m x) ∧ R x (iter ρ m x) := fun m => by
      induction m with
      | zero => exact ⟨hx, e.refl x hx⟩
      | succ m ih => rw [iter_succ]; exact ⟨hi _ ih.1, e.trans _ _ _ hx ih.1 (hi _ ih.1) ih.2 (h1 _ ih.1)⟩
    exact (key m).2
  | k + 1, x, y, hx, hy, c => by
    by_cases hk : P k ∧ k < α k
    · rw [cRel, if_pos hk] at c
      exact glue_of e hk.1 (h.into k hk.1) (h2 k hk.1) (fun u v hu hv => cRel_into (N := N) h e h1 hi h2 k u v hu hv) hx hy c
    · rw [cRel, if_neg hk] at c
      exact cRel_into (N := N) h e h1 hi h2 k x y hx hy c
theorem euler_step {ρ α : Nat → Nat} {P : Nat → Prop} {N : Nat} (hρ : Perm ρ P N) (h : Pairs α P) : ∀ k, Perm (fun q => ρ (aK α k q)) P N ∧ (∀ x y, P x → P y → OrbF (fun q => ρ (aK α k q)) x y → cRel ρ α P k x y) ∧
    ncl (OrbF fun q => ρ (aK α k q)) P N + ncl (OrbF ρ) P N ≤ ePairs α P k + 2 * ncl (cRel ρ α P k) P N
  | 0 => by
    have e : (fun q => ρ (aK α 0 q)) = ρ := funext fun q => by rw [aK_zero]
    rw [e]
    refine ⟨hρ, fun x y _ _ o => o, ?_⟩
    show ncl (OrbF ρ) P N + ncl (OrbF ρ) P N ≤ ePairs α P 0 + 2 * ncl (OrbF ρ) P N
    omega
  | k + 1 => by
    obtain ⟨hp, hc, hn⟩ := euler_step hρ h k
    have ec := cRel_eqv hρ h k
    by_cases hk : P k ∧ k < α k
    · have pa := hk.1
      have pb := h.into k hk.1
      have heq : ∀ q, P q → (fun q => (fun q => ρ (aK α k q)) (swp k (α k) q)) q = (fun q => ρ (aK α (k + 1) q)) q := fun q hq => by
        show ρ (aK α k (swp k (α k) q)) = ρ (aK α (k + 1) q)
        rw [aK_step h hk.1 hk.2 hq]
      have hs := hp.swap pa pb
      have hE : ePairs α P (k + 1) = ePairs α P k + 1 := by rw [ePairs_succ, if_pos hk]
      have hC : cRel ρ α P (k + 1) = glue (cRel ρ α P k) k (α k) := by rw [cRel, if_pos hk]
      have hsub : ∀ x y, P x → P y → OrbF (fun q => ρ (aK α (k + 1) q)) x y → cRel ρ α P (k + 1) x y := fun x y hx hy o => by
        rw [hC]
        have g := hp.swap_glue pa pb hx ((orbF_congr hs heq hx).2 o)
        exact glue_of (ec.glue pa pb) pa pb (glue_ab ec pa pb) (fun u v hu hv r => .inl (hc u v hu hv r)) hx hy g
      refine ⟨hs.congr heq, hsub, ?_⟩
      rw [← ncl_orb_congr hs heq, hE]
      by_cases hcon : cRel ρ α P k k (α k)
      · have h1 := hp.swap_le pa pb
        have h2 : ncl (cRel ρ α P k) P N ≤ ncl (cRel ρ α P (k + 1)) P N := by
          refine ncl_coarse (cRel_eqv hρ h (k + 1)) fun x y hx hy g => ?_
          rw [hC] at g
          exact glue_of ec pa pb hcon (fun u v _ _ r => r) hx hy g
        omega
      · have h1 := (hp.swap_lt pa pb fun o => hcon (hc _ _ pa pb o)).2
        have h2 : ncl (cRel ρ α P k) P N ≤ ncl (cRel ρ α P (k + 1)) P N + 1 := ncl_glue_ge (a := k) (b := α k) ec (cRel_eqv hρ h (k + 1)) pa (hρ.lt _ pb) pb fun x y _ _ g => by rwa [hC] at g
        omega
    · have heq : ∀ q, P q → (fun q => ρ (aK α k q)) q = (fun q => ρ (aK α (k + 1) q)) q := fun q hq => by
        show ρ (aK α k q) = ρ (aK α (k + 1) q)
        rw [aK_keep h hk hq]
      have hE : ePairs α P (k + 1) = ePairs α P k := by rw [ePairs_succ, if_neg hk]; rfl
      have hC : cRel ρ α P (k + 1) = cRel ρ α P k := by rw [cRel, if_neg hk]
      rw [hE, hC, ← ncl_orb_congr hp heq]
      exact ⟨hp.congr heq, fun x y hx hy o => hc x y hx hy ((orbF_congr hp heq hx).2 o), hn⟩
/-- Euler's bound. -/
theorem euler {ρ α : Nat → Nat} {P : Nat → Prop} {N : Nat} (hρ : Perm ρ P N) (h : Pairs α P) : ncl (OrbF fun q => ρ (α q)) P N + ncl (OrbF ρ) P N ≤ ePairs α P N + 2 * ncl (cRel ρ α P N) P N := by
  obtain ⟨hp, _, hn⟩ := euler_step hρ h N
  have heq : ∀ q, P q → (fun q => ρ (aK α N q)) q = (fun q => ρ (α q)) q := fun q hq => by
    show ρ (aK α N q) = ρ (α q)
    rw [aK_all (hρ.lt q hq)]
  rwa [ncl_orb_congr hp heq] at hn
theorem ePairs_half {α : Nat → Nat} {P : Nat → Prop} {N : Nat} (h : Pairs α P) (hl : ∀ x, P x → x < N) : 2 * ePairs α P N ≤ cardP P N := by
  have h1 : cardP P N = ePairs α P N + ((List.range N).filter fun q => tb (P q ∧ α q < q)).length := by
    refine filter_split _ _ _ _ (fun x _ => ?_) (fun x _ hh => ?_)
    · rw [Bool.eq_iff_iff, Bool.or_eq_true]
      simp only [tb_iff]
      constructor
      · intro hp
        have := h.ne x hp
        rcases Nat.lt_or_ge x (α x) with h3 | h3
        · exact .inl ⟨hp, h3⟩
        · exact .inr ⟨hp, by omega⟩
      · rintro (hp | hp)
        · exact hp.1
        · exact hp.1
    · have a := tb_iff.1 hh.1
      have b := tb_iff.1 hh.2
      omega
  have h2 : ePairs α P N ≤ ((List.range N).filter fun q => tb (P q ∧ α q < q)).length := by
    refine inj_len (fun x y => y = α x) _ _ (fun x hx => ?_) ?_
    · have hx2 := tb_iff.1 (List.mem_filter.1 hx).2
      refine ⟨α x, List.mem_filter.2 ⟨List.mem_range.2 (hl _ (h.into x hx2.1)), tb_iff.2 ⟨h.into x hx2.1, by rw [h.back x hx2.1]; exact hx2.2⟩⟩, rfl⟩
    · refine List.Pairwise.imp_of_mem ?_ (List.Pairwise.filter _ List.pairwise_lt_range)
      intro x y hx hy hxy b _ e1 e2
      have hx2 := (tb_iff.1 (List.mem_filter.1 hx).2).1
      have hy2 := (tb_iff.1 (List.mem_filter.1 hy).2).1
      have : x = y := by rw [← h.back x hx2, ← e1, e2, h.back y hy2]
      omega
  omega
end Go.V
/- Plain laws, part t: the regions of a planar diagram can be coloured so that the colour changes exactly at the arcs of a set of strands; two components cross an even number of times. -/
namespace Go.V
open Go
/-! ### The twofold cover of the places -/
def zz (z : Nat → Bool) (q : Nat) : Nat := if z q = true then 1 else 0
theorem zz_lt (z : Nat → Bool) (q : Nat) : zz z q < 2 := by simp only [zz]; split <;> omega
def cvA (d : Dia) (z : Nat → Bool) (u : Nat) : Nat := 2 * otherQ d (u / 2) + (u % 2 + zz z (u / 2)) % 2
def cvR (z : Nat → Bool) (u : Nat) : Nat := 2 * rotQ 3 (u / 2) + (u % 2 + zz z (u / 2)) % 2
def inP (d : Dia) (c0 q : Nat) : Prop := q < 4 * d.cross.length ∧ Conn d c0 (q / 4)
def cvP (d : Dia) (c0 u : Nat) : Prop := inP d c0 (u / 2)
theorem cvA_div (d : Dia) (z : Nat → Bool) (u : Nat) : cvA d z u / 2 = otherQ d (u / 2) := by simp only [cvA]; omega
theorem cvA_mod (d : Dia) (z : Nat → Bool) (u : Nat) : cvA d z u % 2 = (u % 2 + zz z (u / 2)) % 2 := by simp only [cvA]; omega
theorem cvR_div (z : Nat → Bool) (u : Nat) : cvR z u / 2 = rotQ 3 (u / 2) := by simp only [cvR]; omega
theorem cvR_mod (z : Nat → Bool) (u : Nat) : cvR z u % 2 = (u % 2 + zz z (u / 2)) % 2 := by simp only [cvR]; omega
theorem inP.rot {d : Dia} {c0 q : Nat} (h : inP d c0 q) (k : Nat) : inP d c0 (rotQ k q) := ⟨rotQ_lt h.1, by rw [rotQ_div]; exact h.2⟩
theorem inP.other {d : Dia} {c0 q : Nat} (h : inP d c0 q) (hs : SoundP d) : inP d c0 (otherQ d q) := ⟨hs.other_lt h.1, by
  have := Conn.step (p := q % 4) h.2 (by omega)
  rwa [show 4 * (q / 4) + q % 4 = q by omega] at this⟩
theorem inP.step {d : Dia} {c0 q : Nat} (h : inP d c0 q) (hs : SoundP d) : inP d c0 (stepQ d q) := by rw [step_rot]; exact (h.other hs).rot 3
theorem rotQ3_inj {p q : Nat} (e : rotQ 3 p = rotQ 3 q) : p = q := by simp only [rotQ] at e; omega
theorem zz_eq {z : Nat → Bool} {p q : Nat} (h : z p = z q) : zz z p = zz z q := by simp only [zz, h]
/-- The set of strands: both ends of an arc, both arcs of a strand. -/
structure Strands (d : Dia) (z : Nat → Bool) : Prop where
  oth : ∀ q, q < 4 * d.cross.length → z (otherQ d q) = z q
  rot : ∀ q, q < 4 * d.cross.length → z (rotQ 2 q) = z q
theorem cv_perm (d : Dia) (z : Nat → Bool) (c0 : Nat) : Perm (cvR z) (cvP d c0) (8 * d.cross.length) where
  lt u hu := by have := hu.1; omega
  into u hu := by show inP d c0 (cvR z u / 2); rw [cvR_div]; exact hu.rot 3
  inj u v _ _ e := by
    have e1 := congrArg (· / 2) e
    have e2 := congrArg (· % 2) e
    simp only [cvR_div, cvR_mod] at e1 e2
    have e3 := rotQ3_inj e1
    rw [e3] at e2
    have := zz_lt z (v / 2)
    omega
theorem cv_pairs {d : Dia} (hs : SoundP d) {z : Nat → Bool} (hz : Strands d z) (c0 : Nat) : Pairs (cvA d z) (cvP d c0) where
  into u hu := by show inP d c0 (cvA d z u / 2); rw [cvA_div]; exact hu.other hs
  back u hu := by
    have h1 := cvA_div d z u
    have h2 := cvA_mod d z u
    have h3 := zz_eq (hz.oth _ hu.1)
    have h4 := zz_lt z (u / 2)
    rw [cvA, h1, h2, h3, hs.other_other hu.1]
    omega
  ne u hu e := by
    have := congrArg (· / 2) e
    simp only [cvA_div] at this
    exact hs.other_ne hu.1 this
theorem cv_phi {d : Dia} (_ : SoundP d) {z : Nat → Bool} (hz : Strands d z) {c0 u : Nat} (hu : cvP d c0 u) : cvR z (cvA d z u) = 2 * stepQ d (u / 2) + u % 2 := by
  have h3 := zz_eq (hz.oth _ hu.1)
  have h4 := zz_lt z (u / 2)
  rw [cvR, cvA_div, cvA_mod, h3, step_rot]
  omega
theorem phi_perm {d : Dia} (hs : SoundP d) {z : Nat → Bool} (hz : Strands d z) (c0 : Nat) : Perm (fun u => cvR z (cvA d z u)) (cvP d c0) (8 * d.cross.length) where
  lt u hu := by have := hu.1; omega
  into u hu := (cv_perm d z c0).into _ ((cv_pairs hs hz c0).into u hu)
  inj u v hu hv e := by
    have := (cv_perm d z c0).inj _ _ ((cv_pairs hs hz c0).into u hu) ((cv_pairs hs hz c0).into v hv) e
    rw [← (cv_pairs hs hz c0).back u hu, this, (cv_pairs hs hz c0).back v hv]
theorem phi_iter {d : Dia} (hs : SoundP d) {z : Nat → Bool} (hz : Strands d z) {c0 u : Nat} (hu : cvP d c0 u) : ∀ k, iter (fun u => cvR z (cvA d z u)) k u = 2 * iter (stepQ d) k (u / 2) + u % 2 := fun k => by
  induction k with
  | zero => show u = 2 * (u / 2) + u % 2; omega
  | succ k ih =>
    have hk := (phi_perm hs hz c0).iter hu k
    rw [iter_succ, iter_succ]
    show cvR z (cvA d z _) = _
    rw [cv_phi hs hz hk, ih, show (2 * iter (stepQ d) k (u / 2) + u % 2) / 2 = iter (stepQ d) k (u / 2) by omega]
    omega
theorem step_perm {d : Dia} (hs : SoundP d) (c0 : Nat) : Perm (stepQ d) (inP d c0) (4 * d.cross.length) := ⟨fun _ h => h.1, fun _ h => h.step hs, fun _ _ hx hy e => hs.step_inj hx.1 hy.1 e⟩
theorem cntReg_ncl {d : Dia} (hs : SoundP d) (c0 : Nat) : cntReg d c0 ≤ ncl (OrbF (stepQ d)) (inP d c0) (4 * d.cross.length) := by
  have e := (step_perm hs c0).eqv
  refine inj_len (fun r b => b ∈ r) _ _ (fun r hr => ?_) ?_
  · obtain ⟨hr, hcn⟩ := List.mem_filter.1 hr
    obtain ⟨q, hq, rfl⟩ := regsOf_mem hr
    rw [(regionOf_head (by omega)).1, connB_iff] at hcn
    obtain ⟨b, hb, h1, h2⟩ := e.rep q ⟨hq, hcn⟩
    exact ⟨b, List.mem_filter.2 ⟨List.mem_range.2 (by omega), h1⟩, (mem_region hs hq).2 ((step_perm hs c0).orb_symm (repB_iff.1 h1).1 h2)⟩
  · exact ((regs_pairwise hs).filter _).imp fun h b _ h1 h2 => h b h1 h2
theorem cv_faces {d : Dia} (hs : SoundP d) {z : Nat → Bool} (hz : Strands d z) (c0 : Nat) : 2 * cntReg d c0 ≤ ncl (OrbF fun u => cvR z (cvA d z u)) (cvP d c0) (8 * d.cross.length) := by
  have hp := phi_perm hs hz c0
  have h0 := cntReg_ncl hs c0
  rw [ncl_split (fun u => u % 2 = 0) (fun x y hx _ ⟨k, hk⟩ => by rw [phi_iter hs hz hx] at hk; omega)]
  have key : ∀ (Q : Nat → Prop) (s : Nat), s < 2 → (∀ q, Q (2 * q + s)) → ncl (OrbF (stepQ d)) (inP d c0) (4 * d.cross.length) ≤ ncl (OrbF fun u => cvR z (cvA d z u)) (fun x => cvP d c0 x ∧ Q x) (8 * d.cross.length) := fun Q s hs2 hQ => by
    refine ncl_le_of (hp.eqv.sub fun x h => h.1) (fun q u => u = 2 * q + s) (fun q hq pq => ⟨2 * q + s, by omega, ⟨?_, hQ q⟩, rfl⟩) ?_
    · show inP d c0 ((2 * q + s) / 2)
      rwa [show (2 * q + s) / 2 = q by omega]
    · rintro x y _ _ px py ⟨px', _⟩ _ rfl rfl ⟨k, hk⟩
      rw [phi_iter hs hz px'] at hk
      exact ⟨k, by rw [show (2 * x + s) / 2 = x by omega] at hk; omega⟩
  have k0 := key (fun u => u % 2 = 0) 0 (by omega) (fun q => by omega)
  have k1 := key (fun u => ¬ u % 2 = 0) 1 (by omega) (fun q => by omega)
  omega
/-- What is added on the way to the first place of a crossing. -/
def pre (z : Nat → Bool) (q : Nat) : Nat := (if 1 ≤ q % 4 then zz z (4 * (q / 4) + 1) else 0) + (if 2 ≤ q % 4 then zz z (4 * (q / 4) + 2) else 0) + (if 3 ≤ q % 4 then zz z (4 * (q / 4) + 3) else 0)
theorem pre_rot {d : Dia} {z : Nat → Bool} (hz : Strands d z) {q : Nat} (hq : q < 4 * d.cross.length) : (zz z q + pre z (rotQ 3 q)) % 2 = pre z q % 2 := by
  have h0 := zz_eq (hz.rot (4 * (q / 4)) (by omega))
  have h1 := zz_eq (hz.rot (4 * (q / 4) + 1) (by omega))
  rw [show rotQ 2 (4 * (q / 4)) = 4 * (q / 4) + 2 by simp only [rotQ]; omega] at h0
  rw [show rotQ 2 (4 * (q / 4) + 1) = 4 * (q / 4) + 3 by simp only [rotQ]; omega] at h1
  simp only [pre, rotQ_div, rotQ_mod]
  have hm : q % 4 < 4 := by omega
  have hd : q = 4 * (q / 4) + q % 4 := by omega
  generalize q % 4 = p at hm hd ⊢
  generalize q / 4 = c at hd h0 h1 ⊢
  subst hd
  match p, hm with
  | 0, _ => simp; try omega
  | 1, _ => simp; try omega
  | 2, _ => simp; try omega
  | 3, _ => simp; try omega
theorem cv_inv {d : Dia} {z : Nat → Bool} (hz : Strands d z) {c0 u : Nat} (hu : cvP d c0 u) : ∀ k, iter (cvR z) k u / 2 / 4 = u / 2 / 4 ∧ (iter (cvR z) k u % 2 + pre z (iter (cvR z) k u / 2)) % 2 = (u % 2 + pre z (u / 2)) % 2 := fun k => by
  induction k with
  | zero => exact ⟨rfl, rfl⟩
  | succ k ih =>
    have hk := (cv_perm d z c0).iter hu k
    rw [iter_succ, cvR_div, cvR_mod, rotQ_div]
    refine ⟨ih.1, ?_⟩
    have := pre_rot hz hk.1
    omega
theorem cv_verts {d : Dia} {z : Nat → Bool} (hz : Strands d z) (c0 : Nat) : 2 * (pieceOf d c0).length ≤ ncl (OrbF (cvR z)) (cvP d c0) (8 * d.cross.length) := by
  have hp := cv_perm d z c0
  have p0 : ∀ c, pre z (4 * c) = 0 := fun c => by simp [pre, show 4 * c % 4 = 0 by omega]
  rw [ncl_split (fun u => (u % 2 + pre z (u / 2)) % 2 = 0) (fun x y hx _ ⟨k, hk⟩ => by have := (cv_inv hz hx k).2; rw [← hk] at this; omega)]
  have key : ∀ (Q : Nat → Prop) (s : Nat), s < 2 → (∀ c, Q (8 * c + s)) → (pieceOf d c0).length ≤ ncl (OrbF (cvR z)) (fun x => cvP d c0 x ∧ Q x) (8 * d.cross.length) := fun Q s hs2 hQ => by
    have e := hp.eqv.sub (P' := fun x => cvP d c0 x ∧ Q x) fun x h => h.1
    refine inj_len (fun c b => OrbF (cvR z) b (8 * c + s)) _ _ (fun c hc => ?_) ?_
    · obtain ⟨hl, hcn⟩ := mem_piece.1 hc
      have hin : inP d c0 ((8 * c + s) / 2) := ⟨by omega, by rw [show (8 * c + s) / 2 / 4 = c by omega]; exact hcn⟩
      obtain ⟨b, hb, h1, h2⟩ := e.rep (8 * c + s) ⟨hin, hQ c⟩
      exact ⟨b, List.mem_filter.2 ⟨List.mem_range.2 (by omega), h1⟩, h2⟩
    · refine (piece_sorted d c0).imp fun {c c'} hlt b hb o1 o2 => ?_
      have pb : cvP d c0 b := (repB_iff.1 (List.mem_filter.1 hb).2).1.1
      obtain ⟨k, hk⟩ := o1
      obtain ⟨k', hk'⟩ := o2
      have i1 := (cv_inv hz pb k).1
      have i2 := (cv_inv hz pb k').1
      rw [← hk] at i1
      rw [← hk'] at i2
      omega
  have k0 := key (fun u => (u % 2 + pre z (u / 2)) % 2 = 0) 0 (by omega) (fun c => by rw [show (8 * c + 0) / 2 = 4 * c by omega, p0]; omega)
  have k1 := key (fun u => ¬ (u % 2 + pre z (u / 2)) % 2 = 0) 1 (by omega) (fun c => by rw [show (8 * c + 1) / 2 = 4 * c by omega, p0]; omega)
  omega
theorem cnt_block (Q : Nat → Bool) {k : Nat} (hk : 0 < k) : ∀ n, ((List.range (k * n)).filter fun u => Q (u / k)).length = k * ((List.range n).filter Q).length
  | 0 => by simp
  | n + 1 => by
    rw [Nat.mul_succ, List.range_add, List.filter_append, List.length_append, cnt_block Q hk n, List.range_succ, List.filter_append, List.length_append, Nat.mul_add]
    congr 1
    have : ((List.range k).map fun x => k * n + x).filter (fun u => Q (u / k)) = ((List.range k).map fun x => k * n + x).filter (fun _ => Q n) := by
      refine List.filter_congr fun u hu => ?_
      obtain ⟨x, hx, rfl⟩ := List.mem_map.1 hu
      have hx := List.mem_range.1 hx
      rw [Nat.mul_add_div hk, Nat.div_eq_of_lt hx, Nat.add_zero]
    rw [this]
    cases h : Q n with
    | true => rw [List.filter_eq_self.2 (fun _ _ => rfl)]; simp [h]
    | false => simp [h]
theorem cv_edges {d : Dia} (hs : SoundP d) {z : Nat → Bool} (hz : Strands d z) (c0 : Nat) : ePairs (cvA d z) (cvP d c0) (8 * d.cross.length) ≤ 4 * (pieceOf d c0).length := by
  have h1 := ePairs_half (N := 8 * d.cross.length) (cv_pairs hs hz c0) (fun u hu => by have := hu.1; omega)
  have h2 : cardP (cvP d c0) (8 * d.cross.length) = 8 * (pieceOf d c0).length := by
    rw [pieceOf, ← cnt_block (connB d c0) (by omega : 0 < 8), cardP]
    refine congrArg List.length (List.filter_congr fun u hu => ?_)
    have hu := List.mem_range.1 hu
    rw [Bool.eq_iff_iff, tb_iff, connB_iff, cvP, inP, show u / 2 / 4 = u / 8 by omega]
    exact ⟨fun h => h.2, fun h => ⟨by omega, h⟩⟩
  omega
/-- The cover of a planar piece has two parts. -/
theorem cv_parts {d : Dia} (hs : SoundP d) (hp : PlanarP d) {z : Nat → Bool} (hz : Strands d z) {c0 : Nat} (hc : c0 < d.cross.length) : 2 ≤ ncl (cRel (cvR z) (cvA d z) (cvP d c0) (8 * d.cross.length)) (cvP d c0) (8 * d.cross.length) := by
  have h1 := euler (cv_perm d z c0) (cv_pairs hs hz c0)
  have h2 := cv_faces hs hz c0
  have h3 := cv_verts (z := z) hz c0
  have h4 := cv_edges hs hz c0
  have h5 := hp c0 hc
  omega
end Go.V
