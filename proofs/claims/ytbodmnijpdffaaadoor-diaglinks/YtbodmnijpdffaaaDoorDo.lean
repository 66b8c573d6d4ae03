/- Plain laws, part o: soundness, pieces and regions of diagrams whose places are relabelled. -/
import Derived.Test.YtbodmnijpdffaaaDoorDn
namespace Go.V
open Go
/-! ### Counting by an injective relation -/
theorem inj_len {α β : Type} (R : α → β → Prop) : ∀ (L : List α) (L' : List β), (∀ a ∈ L, ∃ b ∈ L', R a b) → L.Pairwise (fun a a' => ∀ b ∈ L', R a b → ¬ R a' b) → L.length ≤ L'.length
  | [], _, _, _ => Nat.zero_le _
  | a :: L, L', ht, hp => by
    obtain ⟨b, hb, hr⟩ := ht a List.mem_cons_self
    obtain ⟨s, t, rfl⟩ := List.append_of_mem hb
    obtain ⟨h1, h2⟩ := List.pairwise_cons.1 hp
    have sub : ∀ x, x ∈ s ++ t → x ∈ s ++ b :: t := fun x hx => by
      rcases List.mem_append.1 hx with h | h
      · exact List.mem_append.2 (.inl h)
      · exact List.mem_append.2 (.inr (List.mem_cons_of_mem _ h))
    have key := inj_len R L (s ++ t) (fun a' ha' => by
      obtain ⟨b', hb', hr'⟩ := ht a' (List.mem_cons_of_mem _ ha')
      have hne : b' ≠ b := fun e => by subst e; exact h1 a' ha' b' hb' hr hr'
      refine ⟨b', ?_, hr'⟩
      rcases List.mem_append.1 hb' with h | h
      · exact List.mem_append.2 (.inl h)
      · rcases List.mem_cons.1 h with h | h
        · exact absurd h hne
        · exact List.mem_append.2 (.inr h)) (h2.imp fun h b hb => h b (sub b hb))
    simp only [List.length_append, List.length_cons] at key ⊢; omega
/-! ### Orbits of places -/
def Orb (d : Dia) (q q' : Nat) : Prop := ∃ k, q' = iter (stepQ d) k q
theorem Orb.trans {d : Dia} {a b c : Nat} (h : Orb d a b) (k : Orb d b c) : Orb d a c := by
  obtain ⟨i, rfl⟩ := h
  obtain ⟨j, rfl⟩ := k
  exact ⟨j + i, by rw [iter_add]⟩
theorem iter_one (f : Nat → Nat) (x : Nat) : iter f 1 x = f x := rfl
/-- A map that is injective on the numbers below N and stays there leads back. -/
theorem orb_back {f : Nat → Nat} {N : Nat} (hf : ∀ x, x < N → f x < N) (hi : ∀ x y, x < N → y < N → f x = f y → x = y) : ∀ (k x : Nat), x < N → ∃ m, x = iter f m (iter f k x)
  | 0, x, _ => ⟨0, rfl⟩
  | k + 1, x, hx => by
    obtain ⟨m, hm⟩ := orb_back hf hi k (f x) (hf x hx)
    obtain ⟨j, _, hj⟩ := comes_back hf hi hx
    refine ⟨j + m, ?_⟩
    rw [iter_add, show iter f (k + 1) x = iter f k (f x) from rfl, ← hm]
    exact hj.symm
theorem SoundP.orb_symm {d : Dia} (h : SoundP d) {q q' : Nat} (hq : q < 4 * d.cross.length) (o : Orb d q q') : Orb d q' q := by
  obtain ⟨k, rfl⟩ := o
  obtain ⟨m, hm⟩ := orb_back (fun x hx => h.step_lt hx) (fun x y hx hy e => h.step_inj hx hy e) k q hq
  exact ⟨m, hm⟩
theorem SoundP.orb_lt {d : Dia} (h : SoundP d) {q q' : Nat} (hq : q < 4 * d.cross.length) (o : Orb d q q') : q' < 4 * d.cross.length := by
  obtain ⟨k, rfl⟩ := o
  exact iter_lt (fun x hx => h.step_lt hx) k q hq
theorem SoundP.orb_conn {d : Dia} (_ : SoundP d) {q q' : Nat} (_ : q < 4 * d.cross.length) (o : Orb d q q') : Conn d (q / 4) (q' / 4) := by
  obtain ⟨k, rfl⟩ := o
  induction k with
  | zero => exact .refl
  | succ k ih =>
    rw [iter_succ, step_div]
    have := Conn.step (p := iter (stepQ d) k q % 4) ih (by omega)
    rwa [show 4 * (iter (stepQ d) k q / 4) + iter (stepQ d) k q % 4 = iter (stepQ d) k q by omega] at this
theorem regsOf_mem {d : Dia} {r : List Nat} (hr : r ∈ regsOf d) : ∃ q, q < 4 * d.cross.length ∧ r = regionOf d q := regsTo_mem d _ r hr
theorem regs_pairwise {d : Dia} (h : SoundP d) : (regsOf d).Pairwise (fun r r' => ∀ x ∈ r, x ∉ r') := by
  have := (regOk h (4 * d.cross.length) (Nat.le_refl _)).nodup
  rw [List.nodup_iff_pairwise_ne, List.pairwise_flatten] at this
  exact this.2.imp fun h x hx hx' => h x hx x hx' rfl
/-- Places of d go to places of d', pieces to pieces, regions apart to regions apart. -/
structure Moves (d d' : Dia) (φ : Nat → Nat) : Prop where
  lt : ∀ q, q < 4 * d.cross.length → φ q < 4 * d'.cross.length
  conn : ∀ a q, a < d.cross.length → q < 4 * d.cross.length → Conn d a (q / 4) → Conn d' a (φ q / 4)
  orb : ∀ q q', q < 4 * d.cross.length → q' < 4 * d.cross.length → Orb d' (φ q) (φ q') → Orb d q q'
theorem cntReg_le {d d' : Dia} {φ : Nat → Nat} (hs : SoundP d) (hs' : SoundP d') (m : Moves d d' φ) {c : Nat} (hc : c < d.cross.length) : cntReg d c ≤ cntReg d' c := by
  refine inj_len (fun r r' => ∃ q ∈ r, φ q ∈ r') _ _ (fun r hr => ?_) ?_
  · obtain ⟨hr, hcn⟩ := List.mem_filter.1 hr
    obtain ⟨q, hq, rfl⟩ := regsOf_mem hr
    have h0 : 0 < d.cross.length := by omega
    rw [(regionOf_head h0).1] at hcn
    have hm := (regOk hs' (4 * d'.cross.length) (Nat.le_refl _)).all (φ q) (m.lt q hq)
    obtain ⟨r', hr', hin⟩ := List.mem_flatten.1 hm
    obtain ⟨q', hq', rfl⟩ := regsOf_mem hr'
    refine ⟨_, List.mem_filter.2 ⟨hr', ?_⟩, q, (mem_region hs hq).2 ⟨0, rfl⟩, hin⟩
    rw [(regionOf_head (by omega)).1, connB_iff]
    have h1 := m.conn c q hc hq (connB_iff.1 hcn)
    have h2 : Orb d' q' (φ q) := (mem_region hs' hq').1 hin
    exact h1.trans ((hs'.orb_conn hq' h2).symm hs' (by omega))
  · have hp := (regs_pairwise hs).filter (fun r => connB d c (r.headD 0 / 4))
    refine List.Pairwise.imp_of_mem ?_ hp
    intro r r2 hr hr2 hdis b hb ⟨q, hq, hqb⟩ ⟨q2, hq2, hqb2⟩
    obtain ⟨x, hx, rfl⟩ := regsOf_mem (List.mem_filter.1 hr).1
    obtain ⟨x2, hx2, rfl⟩ := regsOf_mem (List.mem_filter.1 hr2).1
    obtain ⟨y, hy, rfl⟩ := regsOf_mem (List.mem_filter.1 hb).1
    have o1 : Orb d x q := (mem_region hs hx).1 hq
    have o2 : Orb d x2 q2 := (mem_region hs hx2).1 hq2
    have l1 := hs.orb_lt hx o1
    have l2 := hs.orb_lt hx2 o2
    have p1 : Orb d' y (φ q) := (mem_region hs' hy).1 hqb
    have p2 : Orb d' y (φ q2) := (mem_region hs' hy).1 hqb2
    have o3 := m.orb q q2 l1 l2 ((hs'.orb_symm hy p1).trans p2)
    exact hdis q2 ((mem_region hs hx).2 (o1.trans o3)) hq2
/-- Planarity depends on pieces and on the number of regions. -/
theorem planar_of {d d' : Dia} {φ ψ : Nat → Nat} (hs : SoundP d) (hs' : SoundP d') (hl : d'.cross.length = d.cross.length) (hc : ∀ a c, a < d.cross.length → (Conn d a c ↔ Conn d' a c)) (m : Moves d d' φ) (m' : Moves d' d ψ) (hp : PlanarP d) : PlanarP d' := fun c h => by
  have h : c < d.cross.length := by omega
  have h1 := cntReg_le hs hs' m h
  have h2 := cntReg_le hs' hs m' (c := c) (by omega)
  have h3 : pieceOf d' c = pieceOf d c := by
    simp only [pieceOf, hl]
    refine congrArg (fun f => List.filter f _) (funext fun x => ?_)
    by_cases hx : Conn d c x
    · rw [connB_iff.2 hx, connB_iff.2 ((hc c x h).1 hx)]
    · rw [connB_false.2 hx, connB_false.2 (fun k => hx ((hc c x h).2 k))]
  have := hp c h
  rw [h3]; omega
/-! ### Soundness -/
theorem cnt_none {d : Dia} {a : Int} {inn : Bool} : ∀ {Q : Nat}, (∀ q, q < Q → matchAt d a inn q = false) → cnt d a inn Q = 0
  | 0, _ => rfl
  | Q + 1, h => by rw [cnt_succ, cnt_none (fun q hq => h q (by omega)), h Q (by omega)]; simp
theorem cnt_one {d : Dia} {a : Int} {inn : Bool} : ∀ {Q q : Nat}, q < Q → matchAt d a inn q = true → (∀ q', q' < Q → matchAt d a inn q' = true → q' = q) → cnt d a inn Q = 1
  | Q + 1, q, hq, hm, hu => by
    rw [cnt_succ]
    by_cases e : q = Q
    · subst e
      rw [hm, cnt_none fun q' hq' => by
        cases h : matchAt d a inn q' with
        | false => rfl
        | true => have := hu q' (by omega) h; omega]
      simp
    · rw [cnt_one (q := q) (by omega) hm (fun q' hq' h => hu q' (by omega) h)]
      have : matchAt d a inn Q = false := by
        cases h : matchAt d a inn Q with
        | false => rfl
        | true => have := hu Q (by omega) h; omega
      rw [this]; simp
/-- Places are relabelled; the direction of an arc may turn. -/
structure RelabF (d d' : Dia) (σ : Nat → Nat) (fl : Int → Bool) : Prop extends Relab d d' σ where
  sur : ∀ q, q < 4 * d.cross.length → ∃ q', q' < 4 * d.cross.length ∧ σ q' = q
  inn : ∀ q, q < 4 * d.cross.length → innQ d' q = (innQ d (σ q) ^^ fl (arcQ d (σ q)))
  sgn : ∀ x ∈ d'.cross, x.s = 1 ∨ x.s = -1
  lps : d'.loops = d.loops
theorem RelabF.sound {d d' : Dia} {σ : Nat → Nat} {fl : Int → Bool} (r : RelabF d d' σ fl) (h : SoundP d) : SoundP d' := by
  have hl := r.len
  refine ⟨by rw [hl]; exact h.1, by rw [r.lps]; exact h.2.1, by rw [r.lps]; exact h.2.2.1, fun x hx => ⟨r.sgn x hx, fun p hp => ?_⟩, fun a ha => ?_⟩
  · obtain ⟨c, hcx⟩ := List.getElem?_of_mem hx
    have hc := (List.getElem?_eq_some_iff.1 hcx).1
    have hq : 4 * c + p < 4 * d.cross.length := by omega
    have e := r.arc _ hq
    rw [arcQ, show (4 * c + p) / 4 = c by omega, show (4 * c + p) % 4 = p by omega, crAt_eq hcx] at e
    rw [e, hl]
    exact h.arcQ (r.lt hq)
  · rw [hl] at ha ⊢
    have key : ∀ inn : Bool, cnt d' (a : Int) inn (4 * d.cross.length) = 1 := fun inn => by
      obtain ⟨q0, hq0⟩ := h.find ha (inn ^^ fl (a : Int))
      obtain ⟨l0, a0, i0, _⟩ := findEnd_some hq0
      obtain ⟨q1, l1, e1⟩ := r.sur q0 l0
      refine cnt_one (q := q1) l1 ((matchAt_iff (by omega)).2 ⟨?_, ?_⟩) (fun q' hq' hm => ?_)
      · rw [r.arc q1 l1, e1, a0]
      · rw [r.inn q1 l1, e1, i0, a0]; cases inn <;> cases fl (a : Int) <;> rfl
      · obtain ⟨ma, mi⟩ := (matchAt_iff (by omega)).1 hm
        rw [r.arc q' hq'] at ma
        rw [r.inn q' hq', ma] at mi
        refine r.inj _ _ hq' l1 ?_
        rw [e1]
        refine h.place_unique (r.lt hq') l0 (by rw [ma, a0]) ?_
        rw [i0, ← mi]; cases innQ d (σ q') <;> cases fl (a : Int) <;> rfl
    exact ⟨key false, key true⟩
def rotQ (k q : Nat) : Nat := 4 * (q / 4) + (q % 4 + k) % 4
theorem step_rot (d : Dia) (q : Nat) : stepQ d q = rotQ 3 (otherQ d q) := rfl
/-- A relabelling that turns the places of each crossing. -/
theorem Relab.moves_rot {d d' : Dia} {σ : Nat → Nat} (r : Relab d d' σ) (h : SoundP d) (h' : SoundP d') (hr : ∀ q, q < 4 * d.cross.length → σ (rotQ 3 q) = rotQ 3 (σ q)) : Moves d' d σ := by
  have hl := r.len
  have st : ∀ q, q < 4 * d.cross.length → σ (stepQ d' q) = stepQ d (σ q) := fun q hq => by
    rw [step_rot, hr _ (by rw [← hl]; exact h'.other_lt (by omega)), r.other h h' hq, step_rot]
  refine ⟨fun q hq => r.lt (by omega), fun a q ha hq hcn => ?_, fun q q' hq hq' ⟨k, hk⟩ => ?_⟩
  · rw [r.cr q (by omega)]
    exact r.conn h h' (by omega) hcn
  · have key : ∀ k, iter (stepQ d) k (σ q) = σ (iter (stepQ d') k q) := fun k => by
      induction k with
      | zero => rfl
      | succ k ih => rw [iter_succ, iter_succ, ih, st _ (by rw [← hl]; exact iter_lt (fun x hx => h'.step_lt hx) k q hq)]
    rw [key] at hk
    exact ⟨k, r.inj _ _ (by omega) (by rw [← hl]; exact iter_lt (fun x hx => h'.step_lt hx) k q hq) hk⟩
/-- A relabelling that turns over the places of each crossing. -/
theorem Relab.moves_ref {d d' : Dia} {σ : Nat → Nat} (r : Relab d d' σ) (h : SoundP d) (h' : SoundP d') (hr : ∀ q, q < 4 * d.cross.length → rotQ 3 (σ (rotQ 3 q)) = σ q) : Moves d' d (fun q => otherQ d (σ q)) := by
  have hl := r.len
  have st : ∀ q, q < 4 * d.cross.length → stepQ d (otherQ d (σ (stepQ d' q))) = otherQ d (σ q) := fun q hq => by
    have ho : otherQ d' q < 4 * d.cross.length := by rw [← hl]; exact h'.other_lt (by omega)
    have hs : rotQ 3 (otherQ d' q) < 4 * d.cross.length := by simp only [rotQ]; omega
    rw [step_rot, step_rot d', h.other_other (r.lt hs), hr _ ho, r.other h h' hq]
  refine ⟨fun q hq => h.other_lt (r.lt (by omega)), fun a q ha hq hcn => ?_, fun q q' hq hq' ho => ?_⟩
  · have hc1 := r.conn h h' (by omega) hcn
    have hq2 : q < 4 * d.cross.length := by omega
    have := Conn.step (p := σ q % 4) hc1 (by omega)
    rw [← r.cr q hq2, show 4 * (σ q / 4) + σ q % 4 = σ q by omega] at this
    exact this
  · have hq0 : q < 4 * d.cross.length := by omega
    have hq0' : q' < 4 * d.cross.length := by omega
    have key : ∀ k, iter (stepQ d) k (otherQ d (σ (iter (stepQ d') k q))) = otherQ d (σ q) := fun k => by
      induction k with
      | zero => rfl
      | succ k ih =>
        have hl2 : iter (stepQ d') k q < 4 * d.cross.length := by rw [← hl]; exact iter_lt (fun x hx => h'.step_lt hx) k q hq
        rw [iter_succ (stepQ d') k q]
        show iter (stepQ d) k (stepQ d (otherQ d (σ (stepQ d' (iter (stepQ d') k q))))) = _
        rw [st _ hl2, ih]
    obtain ⟨k, hk⟩ := h.orb_symm (h.other_lt (r.lt hq0)) ho
    have hlk : iter (stepQ d') k q < 4 * d.cross.length := by rw [← hl]; exact iter_lt (fun x hx => h'.step_lt hx) k q hq
    have inj : ∀ (k x y : Nat), x < 4 * d.cross.length → y < 4 * d.cross.length → iter (stepQ d) k x = iter (stepQ d) k y → x = y := fun k => by
      induction k with
      | zero => intro x y _ _ e; exact e
      | succ k ih => intro x y hx hy e; exact h.step_inj hx hy (ih _ _ (h.step_lt hx) (h.step_lt hy) e)
    have h2 := inj k _ _ (h.other_lt (r.lt hlk)) (h.other_lt (r.lt hq0')) ((key k).trans hk)
    have h3 : σ (iter (stepQ d') k q) = σ q' := by rw [← h.other_other (r.lt hlk), h2, h.other_other (r.lt hq0')]
    exact ⟨k, (r.inj _ _ hlk hq0' h3).symm⟩
end Go.V
