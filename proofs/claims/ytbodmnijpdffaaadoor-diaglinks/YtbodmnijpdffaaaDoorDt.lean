/- Plain laws, part t: the regions of a planar diagram can be coloured so that the colour changes exactly at the arcs of a set of strands; two components cross an even number of times. -/
import Derived.Test.YtbodmnijpdffaaaDoorDs
namespace Go.V
open Go
/-! ### The twofold cover of the places -/
def zz (z : Nat → Bool) (q : Nat) : Nat := if z q = true then 1 else 0
theorem zz_lt (z : Nat → Bool) (q : Nat) : zz z q < 2 := by simp only [zz]; split <;> omega
def cvA (d : Dia) (z : Nat → Bool) (u : Nat) : Nat := 2 * otherQ d (u / 2) + (u % 2 + zz z (u / 2)) % 2
def cvR (z : Nat → Bool) (u : Nat) : Nat := 2 * rotQ 3 (u / 2) + (u % 2 + zz z (u / 2)) % 2
def inP (d : Dia) (c0 q : Nat) : Prop := q < 4 * d.cross.length ∧ Conn d c0 (q / 4)
def cvP (d : Dia) (c0 u : Nat) : Prop := inP d c0 (u / 2)
theorem cvA_div (d : Dia) (z : Nat → Bool) (u : Nat) : cvA d z u / 2 = otherQ d (u / 2) := by simp only [cvA]; omega
theorem cvA_mod (d : Dia) (z : Nat → Bool) (u : Nat) : cvA d z u % 2 = (u % 2 + zz z (u / 2)) % 2 := by simp only [cvA]; omega
theorem cvR_div (z : Nat → Bool) (u : Nat) : cvR z u / 2 = rotQ 3 (u / 2) := by simp only [cvR]; omega
theorem cvR_mod (z : Nat → Bool) (u : Nat) : cvR z u % 2 = (u % 2 + zz z (u / 2)) % 2 := by simp only [cvR]; omega
theorem inP.rot {d : Dia} {c0 q : Nat} (h : inP d c0 q) (k : Nat) : inP d c0 (rotQ k q) := ⟨rotQ_lt h.1, by rw [rotQ_div]; exact h.2⟩
theorem inP.other {d : Dia} {c0 q : Nat} (h : inP d c0 q) (hs : SoundP d) : inP d c0 (otherQ d q) := ⟨hs.other_lt h.1, by
  have := Conn.step (p := q % 4) h.2 (by omega)
  rwa [show 4 * (q / 4) + q % 4 = q by omega] at this⟩
theorem inP.step {d : Dia} {c0 q : Nat} (h : inP d c0 q) (hs : SoundP d) : inP d c0 (stepQ d q) := by rw [step_rot]; exact (h.other hs).rot 3
theorem rotQ3_inj {p q : Nat} (e : rotQ 3 p = rotQ 3 q) : p = q := by simp only [rotQ] at e; omega
theorem zz_eq {z : Nat → Bool} {p q : Nat} (h : z p = z q) : zz z p = zz z q := by simp only [zz, h]
/-- The set of strands: both ends of an arc, both arcs of a strand. -/
structure Strands (d : Dia) (z : Nat → Bool) : Prop where
  oth : ∀ q, q < 4 * d.cross.length → z (otherQ d q) = z q
  rot : ∀ q, q < 4 * d.cross.length → z (rotQ 2 q) = z q
theorem cv_perm (d : Dia) (z : Nat → Bool) (c0 : Nat) : Perm (cvR z) (cvP d c0) (8 * d.cross.length) where
  lt u hu := by have := hu.1; omega
  into u hu := by show inP d c0 (cvR z u / 2); rw [cvR_div]; exact hu.rot 3
  inj u v _ _ e := by
    have e1 := congrArg (· / 2) e
    have e2 := congrArg (· % 2) e
    simp only [cvR_div, cvR_mod] at e1 e2
    have e3 := rotQ3_inj e1
    rw [e3] at e2
    have := zz_lt z (v / 2)
    omega
theorem cv_pairs {d : Dia} (hs : SoundP d) {z : Nat → Bool} (hz : Strands d z) (c0 : Nat) : Pairs (cvA d z) (cvP d c0) where
  into u hu := by show inP d c0 (cvA d z u / 2); rw [cvA_div]; exact hu.other hs
  back u hu := by
    have h1 := cvA_div d z u
    have h2 := cvA_mod d z u
    have h3 := zz_eq (hz.oth _ hu.1)
    have h4 := zz_lt z (u / 2)
    rw [cvA, h1, h2, h3, hs.other_other hu.1]
    omega
  ne u hu e := by
    have := congrArg (· / 2) e
    simp only [cvA_div] at this
    exact hs.other_ne hu.1 this
theorem cv_phi {d : Dia} (_ : SoundP d) {z : Nat → Bool} (hz : Strands d z) {c0 u : Nat} (hu : cvP d c0 u) : cvR z (cvA d z u) = 2 * stepQ d (u / 2) + u % 2 := by
  have h3 := zz_eq (hz.oth _ hu.1)
  have h4 := zz_lt z (u / 2)
  rw [cvR, cvA_div, cvA_mod, h3, step_rot]
  omega
theorem phi_perm {d : Dia} (hs : SoundP d) {z : Nat → Bool} (hz : Strands d z) (c0 : Nat) : Perm (fun u => cvR z (cvA d z u)) (cvP d c0) (8 * d.cross.length) where
  lt u hu := by have := hu.1; omega
  into u hu := (cv_perm d z c0).into _ ((cv_pairs hs hz c0).into u hu)
  inj u v hu hv e := by
    have := (cv_perm d z c0).inj _ _ ((cv_pairs hs hz c0).into u hu) ((cv_pairs hs hz c0).into v hv) e
    rw [← (cv_pairs hs hz c0).back u hu, this, (cv_pairs hs hz c0).back v hv]
theorem phi_iter {d : Dia} (hs : SoundP d) {z : Nat → Bool} (hz : Strands d z) {c0 u : Nat} (hu : cvP d c0 u) : ∀ k, iter (fun u => cvR z (cvA d z u)) k u = 2 * iter (stepQ d) k (u / 2) + u % 2 := fun k => by
  induction k with
  | zero => show u = 2 * (u / 2) + u % 2; omega
  | succ k ih =>
    have hk := (phi_perm hs hz c0).iter hu k
    rw [iter_succ, iter_succ]
    show cvR z (cvA d z _) = _
    rw [cv_phi hs hz hk, ih, show (2 * iter (stepQ d) k (u / 2) + u % 2) / 2 = iter (stepQ d) k (u / 2) by omega]
    omega
theorem step_perm {d : Dia} (hs : SoundP d) (c0 : Nat) : Perm (stepQ d) (inP d c0) (4 * d.cross.length) := ⟨fun _ h => h.1, fun _ h => h.step hs, fun _ _ hx hy e => hs.step_inj hx.1 hy.1 e⟩
theorem cntReg_ncl {d : Dia} (hs : SoundP d) (c0 : Nat) : cntReg d c0 ≤ ncl (OrbF (stepQ d)) (inP d c0) (4 * d.cross.length) := by
  have e := (step_perm hs c0).eqv
  refine inj_len (fun r b => b ∈ r) _ _ (fun r hr => ?_) ?_
  · obtain ⟨hr, hcn⟩ := List.mem_filter.1 hr
    obtain ⟨q, hq, rfl⟩ := regsOf_mem hr
    rw [(regionOf_head (by omega)).1, connB_iff] at hcn
    obtain ⟨b, hb, h1, h2⟩ := e.rep q ⟨hq, hcn⟩
    exact ⟨b, List.mem_filter.2 ⟨List.mem_range.2 (by omega), h1⟩, (mem_region hs hq).2 ((step_perm hs c0).orb_symm (repB_iff.1 h1).1 h2)⟩
  · exact ((regs_pairwise hs).filter _).imp fun h b _ h1 h2 => h b h1 h2
theorem cv_faces {d : Dia} (hs : SoundP d) {z : Nat → Bool} (hz : Strands d z) (c0 : Nat) : 2 * cntReg d c0 ≤ ncl (OrbF fun u => cvR z (cvA d z u)) (cvP d c0) (8 * d.cross.length) := by
  have hp := phi_perm hs hz c0
  have h0 := cntReg_ncl hs c0
  rw [ncl_split (fun u => u % 2 = 0) (fun x y hx _ ⟨k, hk⟩ => by rw [phi_iter hs hz hx] at hk; omega)]
  have key : ∀ (Q : Nat → Prop) (s : Nat), s < 2 → (∀ q, Q (2 * q + s)) → ncl (OrbF (stepQ d)) (inP d c0) (4 * d.cross.length) ≤ ncl (OrbF fun u => cvR z (cvA d z u)) (fun x => cvP d c0 x ∧ Q x) (8 * d.cross.length) := fun Q s hs2 hQ => by
    refine ncl_le_of (hp.eqv.sub fun x h => h.1) (fun q u => u = 2 * q + s) (fun q hq pq => ⟨2 * q + s, by omega, ⟨?_, hQ q⟩, rfl⟩) ?_
    · show inP d c0 ((2 * q + s) / 2)
      rwa [show (2 * q + s) / 2 = q by omega]
    · rintro x y _ _ px py ⟨px', _⟩ _ rfl rfl ⟨k, hk⟩
      rw [phi_iter hs hz px'] at hk
      exact ⟨k, by rw [show (2 * x + s) / 2 = x by omega] at hk; omega⟩
  have k0 := key (fun u => u % 2 = 0) 0 (by omega) (fun q => by omega)
  have k1 := key (fun u => ¬ u % 2 = 0) 1 (by omega) (fun q => by omega)
  omega
/-- What is added on the way to the first place of a crossing. -/
def pre (z : Nat → Bool) (q : Nat) : Nat := (if 1 ≤ q % 4 then zz z (4 * (q / 4) + 1) else 0) + (if 2 ≤ q % 4 then zz z (4 * (q / 4) + 2) else 0) + (if 3 ≤ q % 4 then zz z (4 * (q / 4) + 3) else 0)
theorem pre_rot {d : Dia} {z : Nat → Bool} (hz : Strands d z) {q : Nat} (hq : q < 4 * d.cross.length) : (zz z q + pre z (rotQ 3 q)) % 2 = pre z q % 2 := by
  have h0 := zz_eq (hz.rot (4 * (q / 4)) (by omega))
  have h1 := zz_eq (hz.rot (4 * (q / 4) + 1) (by omega))
  rw [show rotQ 2 (4 * (q / 4)) = 4 * (q / 4) + 2 by simp only [rotQ]; omega] at h0
  rw [show rotQ 2 (4 * (q / 4) + 1) = 4 * (q / 4) + 3 by simp only [rotQ]; omega] at h1
  simp only [pre, rotQ_div, rotQ_mod]
  have hm : q % 4 < 4 := by omega
  have hd : q = 4 * (q / 4) + q % 4 := by omega
  generalize q % 4 = p at hm hd ⊢
  generalize q / 4 = c at hd h0 h1 ⊢
  subst hd
  match p, hm with
  | 0, _ => simp; try omega
  | 1, _ => simp; try omega
  | 2, _ => simp; try omega
  | 3, _ => simp; try omega
theorem cv_inv {d : Dia} {z : Nat → Bool} (hz : Strands d z) {c0 u : Nat} (hu : cvP d c0 u) : ∀ k, iter (cvR z) k u / 2 / 4 = u / 2 / 4 ∧ (iter (cvR z) k u % 2 + pre z (iter (cvR z) k u / 2)) % 2 = (u % 2 + pre z (u / 2)) % 2 := fun k => by
  induction k with
  | zero => exact ⟨rfl, rfl⟩
  | succ k ih =>
    have hk := (cv_perm d z c0).iter hu k
    rw [iter_succ, cvR_div, cvR_mod, rotQ_div]
    refine ⟨ih.1, ?_⟩
    have := pre_rot hz hk.1
    omega
theorem cv_verts {d : Dia} {z : Nat → Bool} (hz : Strands d z) (c0 : Nat) : 2 * (pieceOf d c0).length ≤ ncl (OrbF (cvR z)) (cvP d c0) (8 * d.cross.length) := by
  have hp := cv_perm d z c0
  have p0 : ∀ c, pre z (4 * c) = 0 := fun c => by simp [pre, show 4 * c % 4 = 0 by omega]
  rw [ncl_split (fun u => (u % 2 + pre z (u / 2)) % 2 = 0) (fun x y hx _ ⟨k, hk⟩ => by have := (cv_inv hz hx k).2; rw [← hk] at this; omega)]
  have key : ∀ (Q : Nat → Prop) (s : Nat), s < 2 → (∀ c, Q (8 * c + s)) → (pieceOf d c0).length ≤ ncl (OrbF (cvR z)) (fun x => cvP d c0 x ∧ Q x) (8 * d.cross.length) := fun Q s hs2 hQ => by
    have e := hp.eqv.sub (P' := fun x => cvP d c0 x ∧ Q x) fun x h => h.1
    refine inj_len (fun c b => OrbF (cvR z) b (8 * c + s)) _ _ (fun c hc => ?_) ?_
    · obtain ⟨hl, hcn⟩ := mem_piece.1 hc
      have hin : inP d c0 ((8 * c + s) / 2) := ⟨by omega, by rw [show (8 * c + s) / 2 / 4 = c by omega]; exact hcn⟩
      obtain ⟨b, hb, h1, h2⟩ := e.rep (8 * c + s) ⟨hin, hQ c⟩
      exact ⟨b, List.mem_filter.2 ⟨List.mem_range.2 (by omega), h1⟩, h2⟩
    · refine (piece_sorted d c0).imp fun {c c'} hlt b hb o1 o2 => ?_
      have pb : cvP d c0 b := (repB_iff.1 (List.mem_filter.1 hb).2).1.1
      obtain ⟨k, hk⟩ := o1
      obtain ⟨k', hk'⟩ := o2
      have i1 := (cv_inv hz pb k).1
      have i2 := (cv_inv hz pb k').1
      rw [← hk] at i1
      rw [← hk'] at i2
      omega
  have k0 := key (fun u => (u % 2 + pre z (u / 2)) % 2 = 0) 0 (by omega) (fun c => by rw [show (8 * c + 0) / 2 = 4 * c by omega, p0]; omega)
  have k1 := key (fun u => ¬ (u % 2 + pre z (u / 2)) % 2 = 0) 1 (by omega) (fun c => by rw [show (8 * c + 1) / 2 = 4 * c by omega, p0]; omega)
  omega
theorem cnt_block (Q : Nat → Bool) {k : Nat} (hk : 0 < k) : ∀ n, ((List.range (k * n)).filter fun u => Q (u / k)).length = k * ((List.range n).filter Q).length
  | 0 => by simp
  | n + 1 => by
    rw [Nat.mul_succ, List.range_add, List.filter_append, List.length_append, cnt_block Q hk n, List.range_succ, List.filter_append, List.length_append, Nat.mul_add]
    congr 1
    have : ((List.range k).map fun x => k * n + x).filter (fun u => Q (u / k)) = ((List.range k).map fun x => k * n + x).filter (fun _ => Q n) := by
      refine List.filter_congr fun u hu => ?_
      obtain ⟨x, hx, rfl⟩ := List.mem_map.1 hu
      have hx := List.mem_range.1 hx
      rw [Nat.mul_add_div hk, Nat.div_eq_of_lt hx, Nat.add_zero]
    rw [this]
    cases h : Q n with
    | true => rw [List.filter_eq_self.2 (fun _ _ => rfl)]; simp [h]
    | false => simp [h]
theorem cv_edges {d : Dia} (hs : SoundP d) {z : Nat → Bool} (hz : Strands d z) (c0 : Nat) : ePairs (cvA d z) (cvP d c0) (8 * d.cross.length) ≤ 4 * (pieceOf d c0).length := by
  have h1 := ePairs_half (N := 8 * d.cross.length) (cv_pairs hs hz c0) (fun u hu => by have := hu.1; omega)
  have h2 : cardP (cvP d c0) (8 * d.cross.length) = 8 * (pieceOf d c0).length := by
    rw [pieceOf, ← cnt_block (connB d c0) (by omega : 0 < 8), cardP]
    refine congrArg List.length (List.filter_congr fun u hu => ?_)
    have hu := List.mem_range.1 hu
    rw [Bool.eq_iff_iff, tb_iff, connB_iff, cvP, inP, show u / 2 / 4 = u / 8 by omega]
    exact ⟨fun h => h.2, fun h => ⟨by omega, h⟩⟩
  omega
/-- The cover of a planar piece has two parts. -/
theorem cv_parts {d : Dia} (hs : SoundP d) (hp : PlanarP d) {z : Nat → Bool} (hz : Strands d z) {c0 : Nat} (hc : c0 < d.cross.length) : 2 ≤ ncl (cRel (cvR z) (cvA d z) (cvP d c0) (8 * d.cross.length)) (cvP d c0) (8 * d.cross.length) := by
  have h1 := euler (cv_perm d z c0) (cv_pairs hs hz c0)
  have h2 := cv_faces hs hz c0
  have h3 := cv_verts (z := z) hz c0
  have h4 := cv_edges hs hz c0
  have h5 := hp c0 hc
  omega
end Go.V
