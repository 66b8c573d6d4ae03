/- Plain laws, part u: colours of the regions of a planar diagram; two components cross an even number of times. -/
import Derived.Test.YtbodmnijpdffaaaDoorDt
namespace Go.V
open Go
def tw (u : Nat) : Nat := 2 * (u / 2) + (u % 2 + 1) % 2
theorem tw_div (u : Nat) : tw u / 2 = u / 2 := by simp only [tw]; omega
theorem tw_mod (u : Nat) : tw u % 2 = (u % 2 + 1) % 2 := by simp only [tw]; omega
theorem tw_P {d : Dia} {c0 u : Nat} (h : cvP d c0 u) : cvP d c0 (tw u) := by show inP d c0 (tw u / 2); rw [tw_div]; exact h
theorem tw_R (z : Nat → Bool) (u : Nat) : cvR z (tw u) = tw (cvR z u) := by
  have h := cvR_div z u
  have k := cvR_mod z u
  rw [cvR, tw_div, tw_mod, tw, h, k]; omega
theorem tw_A (d : Dia) (z : Nat → Bool) (u : Nat) : cvA d z (tw u) = tw (cvA d z u) := by
  have h := cvA_div d z u
  have k := cvA_mod d z u
  rw [cvA, tw_div, tw_mod, tw, h, k]; omega
section
variable {d : Dia} {z : Nat → Bool} {c0 : Nat}
/-- Joined in the cover. -/
abbrev KK (d : Dia) (z : Nat → Bool) (c0 : Nat) : Nat → Nat → Prop := cRel (cvR z) (cvA d z) (cvP d c0) (8 * d.cross.length)
theorem kk_eqv (hs : SoundP d) (hz : Strands d z) : Eqv (KK d z c0) (cvP d c0) := cRel_eqv (cv_perm d z c0) (cv_pairs hs hz c0) _
theorem kk_R (u : Nat) : KK d z c0 u (cvR z u) := cRel_rho _
theorem kk_A (hs : SoundP d) (hz : Strands d z) {u : Nat} (hu : cvP d c0 u) : KK d z c0 u (cvA d z u) := cRel_alpha (cv_perm d z c0) (cv_pairs hs hz c0) hu
theorem kk_tw (hs : SoundP d) (hz : Strands d z) {u v : Nat} (hu : cvP d c0 u) (hv : cvP d c0 v) (k : KK d z c0 u v) : KK d z c0 (tw u) (tw v) := by
  have e := kk_eqv (c0 := c0) hs hz
  refine cRel_into (R := fun u v => KK d z c0 (tw u) (tw v)) (N := 8 * d.cross.length) (cv_pairs hs hz c0) ⟨fun x hx => e.refl _ (tw_P hx), fun x y hx hy r => e.symm _ _ (tw_P hx) (tw_P hy) r, fun x y w hx hy hw r s => e.trans _ _ _ (tw_P hx) (tw_P hy) (tw_P hw) r s⟩
    (fun x _ => ?_) (cv_perm d z c0).into (fun x hx => ?_) _ u v hu hv k
  · show KK d z c0 (tw x) (tw (cvR z x)); rw [← tw_R]; exact kk_R _
  · show KK d z c0 (tw x) (tw (cvA d z x)); rw [← tw_A]; exact kk_A hs hz (tw_P hx)
theorem cvP_mk {q s : Nat} (h : inP d c0 q) (hs : s < 2) : cvP d c0 (2 * q + s) := by show inP d c0 ((2 * q + s) / 2); rwa [show (2 * q + s) / 2 = q by omega]
theorem kk_round (hs : SoundP d) (hz : Strands d z) {w x s : Nat} (hw : cvP d c0 w) (hx : inP d c0 x) (hs2 : s < 2) (k : KK d z c0 w (2 * x + s)) {p : Nat} (hp : p < 4) : ∃ s', s' < 2 ∧ KK d z c0 w (2 * (4 * (x / 4) + p) + s') := by
  have e := kk_eqv (c0 := c0) hs hz
  have key : ∀ j, inP d c0 (4 * (x / 4) + (x % 4 + 3 * j) % 4) ∧ ∃ s', s' < 2 ∧ KK d z c0 w (2 * (4 * (x / 4) + (x % 4 + 3 * j) % 4) + s') := fun j => by
    induction j with
    | zero =>
      have e1 : 4 * (x / 4) + (x % 4 + 3 * 0) % 4 = x := by omega
      rw [e1]; exact ⟨hx, s, hs2, k⟩
    | succ j ih =>
      obtain ⟨hi, s', hs', hk⟩ := ih
      have e1 : rotQ 3 (4 * (x / 4) + (x % 4 + 3 * j) % 4) = 4 * (x / 4) + (x % 4 + 3 * (j + 1)) % 4 := by simp only [rotQ]; omega
      have h2 := hi.rot 3
      rw [e1] at h2
      have hu := cvP_mk hi hs'
      have hv := (cv_perm d z c0).into _ hu
      have hr := e.trans _ _ _ hw hu hv hk (kk_R _)
      refine ⟨h2, cvR z (2 * (4 * (x / 4) + (x % 4 + 3 * j) % 4) + s') % 2, by omega, ?_⟩
      have e2 := cvR_div z (2 * (4 * (x / 4) + (x % 4 + 3 * j) % 4) + s')
      rw [show (2 * (4 * (x / 4) + (x % 4 + 3 * j) % 4) + s') / 2 = 4 * (x / 4) + (x % 4 + 3 * j) % 4 by omega, e1] at e2
      rwa [show 2 * (4 * (x / 4) + (x % 4 + 3 * (j + 1)) % 4) + cvR z (2 * (4 * (x / 4) + (x % 4 + 3 * j) % 4) + s') % 2 = cvR z (2 * (4 * (x / 4) + (x % 4 + 3 * j) % 4) + s') by omega]
  have := (key ((x % 4 + 4 - p) % 4)).2
  rwa [show (x % 4 + 3 * ((x % 4 + 4 - p) % 4)) % 4 = p by omega] at this
theorem kk_lift (hs : SoundP d) (hz : Strands d z) {q : Nat} (hq : inP d c0 q) {c : Nat} (hc : Conn d (q / 4) c) : ∀ p, p < 4 → ∃ s, s < 2 ∧ KK d z c0 (2 * q) (2 * (4 * c + p) + s) := by
  have e := kk_eqv (c0 := c0) hs hz
  have hw : cvP d c0 (2 * q) := cvP_mk (s := 0) hq (by omega)
  induction hc with
  | refl => exact fun p hp => kk_round hs hz hw hq (s := 0) (by omega) (e.refl _ hw) hp
  | @step c p hc hp ih =>
    intro p' hp'
    obtain ⟨s, hs2, hk⟩ := ih p hp
    have hcl : c < d.cross.length := hc.lt hs (by have := hq.1; omega)
    have hi : inP d c0 (4 * c + p) := ⟨by omega, by rw [show (4 * c + p) / 4 = c by omega]; exact hq.2.trans hc⟩
    have hu := cvP_mk hi hs2
    have hv := (cv_pairs hs hz c0).into _ hu
    have hr := e.trans _ _ _ hw hu hv hk (kk_A hs hz hu)
    have e2 := cvA_div d z (2 * (4 * c + p) + s)
    rw [show (2 * (4 * c + p) + s) / 2 = 4 * c + p by omega] at e2
    refine kk_round hs hz hw (hi.other hs) (s := cvA d z (2 * (4 * c + p) + s) % 2) (by omega) ?_ hp'
    rwa [show 2 * otherQ d (4 * c + p) + cvA d z (2 * (4 * c + p) + s) % 2 = cvA d z (2 * (4 * c + p) + s) by omega]
theorem kk_apart (hs : SoundP d) (hp : PlanarP d) (hz : Strands d z) (hc : c0 < d.cross.length) {q : Nat} (hq : inP d c0 q) : ¬ KK d z c0 (2 * q) (2 * q + 1) := fun k => by
  have e := kk_eqv (c0 := c0) hs hz
  have h2 : 2 ≤ ncl (KK d z c0) (cvP d c0) (8 * d.cross.length) := cv_parts hs hp hz hc
  have hw : cvP d c0 (2 * q) := cvP_mk (s := 0) hq (by omega)
  have hw1 : cvP d c0 (2 * q + 1) := cvP_mk (s := 1) hq (by omega)
  have := ncl_one (N := 8 * d.cross.length) e ((cv_perm d z c0).lt _ hw) hw fun u _ hu => by
    have hcn : Conn d (q / 4) (u / 2 / 4) := (hq.2.symm hs hc).trans hu.2
    obtain ⟨s, hs2, hk⟩ := kk_lift hs hz hq hcn (u / 2 % 4) (by omega)
    rw [show 4 * (u / 2 / 4) + u / 2 % 4 = u / 2 by omega] at hk
    by_cases h : u = 2 * (u / 2) + s
    · rwa [← h] at hk
    · have hv := cvP_mk hu hs2
      have ht := kk_tw hs hz hw hv hk
      rw [show tw (2 * q) = 2 * q + 1 by simp only [tw]; omega, show tw (2 * (u / 2) + s) = u by simp only [tw]; omega] at ht
      exact e.trans _ _ _ hw hw1 hu k ht
  omega
theorem kk_one (hs : SoundP d) (hp : PlanarP d) (hz : Strands d z) (hc : c0 < d.cross.length) {q : Nat} (hq : inP d c0 q) : KK d z c0 (8 * c0) (2 * q) ↔ ¬ KK d z c0 (8 * c0) (2 * q + 1) := by
  have e := kk_eqv (c0 := c0) hs hz
  have h0 : inP d c0 (4 * c0) := ⟨by omega, by rw [show 4 * c0 / 4 = c0 by omega]; exact .refl⟩
  have hb : cvP d c0 (8 * c0) := by have := cvP_mk (s := 0) h0 (by omega); rwa [show 2 * (4 * c0) + 0 = 8 * c0 by omega] at this
  have hw : cvP d c0 (2 * q) := cvP_mk (s := 0) hq (by omega)
  have hw1 : cvP d c0 (2 * q + 1) := cvP_mk (s := 1) hq (by omega)
  constructor
  · exact fun a b => kk_apart hs hp hz hc hq (e.trans _ _ _ hw hb hw1 (e.symm _ _ hb hw a) b)
  · intro hn
    obtain ⟨s, hs2, hk⟩ := kk_lift hs hz h0 (c := q / 4) (by rw [show 4 * c0 / 4 = c0 by omega]; exact hq.2) (q % 4) (by omega)
    rw [show 4 * (q / 4) + q % 4 = q by omega, show 2 * (4 * c0) = 8 * c0 by omega] at hk
    match s, hs2 with
    | 0, _ => exact hk
    | 1, _ => exact absurd hk hn
theorem colour_piece (hs : SoundP d) (hp : PlanarP d) (hz : Strands d z) (hc : c0 < d.cross.length) : ∃ col : Nat → Bool, ∀ q, inP d c0 q → col (stepQ d q) = col q ∧ col (otherQ d q) = (col q ^^ z q) := by
  have e := kk_eqv (c0 := c0) hs hz
  have h0 : inP d c0 (4 * c0) := ⟨by omega, by rw [show 4 * c0 / 4 = c0 by omega]; exact .refl⟩
  have hb : cvP d c0 (8 * c0) := by have := cvP_mk (s := 0) h0 (by omega); rwa [show 2 * (4 * c0) + 0 = 8 * c0 by omega] at this
  refine ⟨fun q => tb (KK d z c0 (8 * c0) (2 * q)), fun q hq => ?_⟩
  have hw : cvP d c0 (2 * q) := cvP_mk (s := 0) hq (by omega)
  have hA := (cv_pairs hs hz c0).into _ hw
  have hR := (cv_perm d z c0).into _ hA
  have kA := kk_A hs hz hw
  have kR := e.trans _ _ _ hw hA hR kA (kk_R _)
  have e1 := cv_phi hs hz hw
  rw [show 2 * q / 2 = q by omega, show 2 * q % 2 = 0 by omega] at e1
  rw [e1] at kR hR
  have e2 : cvA d z (2 * q) = 2 * otherQ d q + zz z q := by
    have := zz_lt z q
    rw [cvA, show 2 * q / 2 = q by omega]; omega
  rw [e2] at kA hA
  constructor
  · show tb _ = tb _
    rw [Bool.eq_iff_iff, tb_iff, tb_iff]
    exact ⟨fun k => e.trans _ _ _ hb hR hw k (e.symm _ _ hw hR kR), fun k => e.trans _ _ _ hb hw hR k kR⟩
  · show tb _ = (tb _ ^^ z q)
    cases hzq : z q with
    | false =>
      rw [zz, hzq] at kA hA
      rw [Bool.xor_false, Bool.eq_iff_iff, tb_iff, tb_iff]
      exact ⟨fun k => e.trans _ _ _ hb hA hw k (e.symm _ _ hw hA kA), fun k => e.trans _ _ _ hb hw hA k kA⟩
    | true =>
      rw [zz, hzq, if_pos rfl] at kA hA
      rw [Bool.xor_true, Bool.eq_iff_iff, tb_iff, Bool.not_eq_true', ← Bool.not_eq_true, tb_iff]
      rw [kk_one hs hp hz hc (hq.other hs)]
      exact not_congr ⟨fun k => e.trans _ _ _ hb hA hw k (e.symm _ _ hw hA kA), fun k => e.trans _ _ _ hb hw hA k kA⟩
end
/-- The regions of a planar diagram can be coloured: the colour changes exactly at the arcs of the set. -/
theorem colour {d : Dia} {z : Nat → Bool} (hs : SoundP d) (hp : PlanarP d) (hz : Strands d z) : ∃ col : Nat → Bool, ∀ q, q < 4 * d.cross.length → col (stepQ d q) = col q ∧ col (otherQ d q) = (col q ^^ z q) := by
  obtain ⟨f, hf⟩ := Classical.axiomOfChoice (r := fun (c0 : Nat) (col : Nat → Bool) => c0 < d.cross.length → ∀ q, inP d c0 q → col (stepQ d q) = col q ∧ col (otherQ d q) = (col q ^^ z q)) fun c0 => by
    by_cases h : c0 < d.cross.length
    · obtain ⟨col, hc⟩ := colour_piece hs hp hz h; exact ⟨col, fun _ => hc⟩
    · exact ⟨fun _ => false, fun k => absurd k h⟩
  refine ⟨fun q => f ((pieceOf d (q / 4)).headD 0) q, fun q hq => ?_⟩
  have hl : q / 4 < d.cross.length := by omega
  obtain ⟨m, hm⟩ := piece_first d hl
  have hmm : (pieceOf d (q / 4)).headD 0 = m := by
    cases h : pieceOf d (q / 4) with
    | nil => rw [h] at hm; simp at hm
    | cons a l => rw [h] at hm; simp at hm; simp [hm]
  obtain ⟨hml, hmc⟩ := mem_piece.1 (List.mem_of_getElem? hm)
  have hin : inP d m q := ⟨hq, hmc.symm hs hl⟩
  have c1 : Conn d (q / 4) (otherQ d q / 4) := by
    have := Conn.step (d := d) (a := q / 4) (p := q % 4) .refl (by omega)
    rwa [show 4 * (q / 4) + q % 4 = q by omega] at this
  have p1 := piece_congr hs hl c1
  have h1 := hf m hml q hin
  show f ((pieceOf d (stepQ d q / 4)).headD 0) _ = f ((pieceOf d (q / 4)).headD 0) _ ∧ f ((pieceOf d (otherQ d q / 4)).headD 0) _ = (f ((pieceOf d (q / 4)).headD 0) _ ^^ z q)
  rw [step_div, ← p1, hmm]
  exact h1
/-! ### Evenness -/
theorem filter_len_all (S : List Nat) (p : Nat → Bool) : S.length = (S.filter p).length + (S.filter fun q => !p q).length := by
  induction S with
  | nil => rfl
  | cons x l ih => simp only [List.filter_cons]; cases h : p x <;> simp <;> omega
theorem filter_xor (S : List Nat) (f g : Nat → Bool) : (S.filter fun q => f q ^^ g q).length + 2 * (S.filter fun q => f q && g q).length = (S.filter f).length + (S.filter g).length := by
  induction S with
  | nil => rfl
  | cons x l ih => simp only [List.filter_cons]; cases h : f x <;> cases k : g x <;> simp <;> omega
theorem even_moves {S : List Nat} {ν : Nat → Nat} {col t : Nat → Bool} (hS : S.Pairwise (· < ·)) (hi : ∀ q ∈ S, ν q ∈ S) (hj : ∀ q ∈ S, ∀ q' ∈ S, ν q = ν q' → q = q') (hc : ∀ q ∈ S, col (ν q) = (col q ^^ t q)) : ∃ k, (S.filter t).length = 2 * k := by
  have le : ∀ p : Nat → Bool, (S.filter fun q => p (ν q)).length ≤ (S.filter p).length := fun p => by
    refine inj_len (fun x y => y = ν x) _ _ (fun x hx => ?_) ?_
    · obtain ⟨h1, h2⟩ := List.mem_filter.1 hx
      exact ⟨ν x, List.mem_filter.2 ⟨hi x h1, h2⟩, rfl⟩
    · refine List.Pairwise.imp_of_mem ?_ (hS.filter _)
      intro x y hx hy hxy b _ e1 e2
      have := hj x (List.mem_filter.1 hx).1 y (List.mem_filter.1 hy).1 (e1.symm.trans e2)
      omega
  have h1 := le col
  have h2 := le fun q => !col q
  have h3 := filter_len_all S col
  have h4 := filter_len_all S fun q => col (ν q)
  have h5 := filter_xor S col fun q => col (ν q)
  have h6 : (S.filter fun q => col q ^^ col (ν q)) = S.filter t := List.filter_congr fun q hq => by rw [hc q hq]; cases col q <;> cases t q <;> rfl
  rw [h6] at h5
  exact ⟨(S.filter col).length - (S.filter fun q => col q && col (ν q)).length, by omega⟩
def lkT (d : Dia) (i j : Int) (q : Nat) : Bool := innQ d q && decide ((compOf d).getD (arcQ d q).toNat 0 = j) && decide ((compOf d).getD (arcQ d (rotQ 3 q)).toNat 0 = i)
theorem lk_four {d : Dia} (hs : SoundP d) {i j : Int} (hij : i ≠ j) {c : Nat} (hc : c < d.cross.length) : ∃ m : Int, linkOne (compOf d) i j (crAt d c) = (lkT d i j (4 * c)).toNat + (lkT d i j (4 * c + 1)).toNat + (lkT d i j (4 * c + 2)).toNat + (lkT d i j (4 * c + 3)).toNat + 2 * m := by
  have h1 := hs.comp_lo hc
  have h2 := hs.comp_hi hc
  have hsg := hs.sgn hc
  have e0 : lkT d i j (4 * c) = ((crAt d c).inn 0 && decide (lowC (compOf d) (crAt d c) = j) && decide (upC (compOf d) (crAt d c) = i)) := by
    simp only [lkT, innQ, arcQ, rotQ_div, rotQ_mod, show 4 * c / 4 = c by omega, show 4 * c % 4 = 0 by omega]
    show (_ && decide ((compOf d).getD (crAt d c).a0.toNat 0 = j) && decide ((compOf d).getD (crAt d c).a3.toNat 0 = i)) = _
    rw [h2]; rfl
  have e1 : lkT d i j (4 * c + 1) = ((crAt d c).inn 1 && decide (upC (compOf d) (crAt d c) = j) && decide (lowC (compOf d) (crAt d c) = i)) := by
    simp only [lkT, innQ, arcQ, rotQ_div, rotQ_mod, show (4 * c + 1) / 4 = c by omega, show (4 * c + 1) % 4 = 1 by omega]
    rfl
  have e2 : lkT d i j (4 * c + 2) = false := by
    simp only [lkT, innQ, show (4 * c + 2) / 4 = c by omega, show (4 * c + 2) % 4 = 2 by omega]
    rcases hsg with h | h <;> simp [Cr.inn]
  have e3 : lkT d i j (4 * c + 3) = ((crAt d c).inn 3 && decide (upC (compOf d) (crAt d c) = j) && decide (lowC (compOf d) (crAt d c) = i)) := by
    simp only [lkT, innQ, arcQ, rotQ_div, rotQ_mod, show (4 * c + 3) / 4 = c by omega, show (4 * c + 3) % 4 = 3 by omega]
    show (_ && decide ((compOf d).getD (crAt d c).a3.toNat 0 = j) && decide ((compOf d).getD (crAt d c).a2.toNat 0 = i)) = _
    rw [h1, h2]; rfl
  rw [e0, e1, e2, e3, linkOne]
  generalize lowC (compOf d) (crAt d c) = lo
  generalize upC (compOf d) (crAt d c) = up
  generalize crAt d c = x at hsg ⊢
  obtain ⟨a0, a1, a2, a3, s⟩ := x
  simp only at hsg
  by_cases hA : lo = i ∧ up = j
  · obtain ⟨rfl, rfl⟩ := hA
    have hne : ¬ up = lo := fun e => hij e.symm
    rcases hsg with h | h <;> subst h
    · exact ⟨0, by simp [Cr.inn, hij, hne]⟩
    · exact ⟨-1, by simp [Cr.inn, hij, hne]⟩
  · by_cases hB : lo = j ∧ up = i
    · obtain ⟨rfl, rfl⟩ := hB
      have hne : ¬ lo = up := fun e => hij e.symm
      rcases hsg with h | h <;> subst h
      · exact ⟨0, by simp [Cr.inn, hij, hne]⟩
      · exact ⟨-1, by simp [Cr.inn, hij, hne]⟩
    · refine ⟨0, ?_⟩
      rw [if_neg (by rintro (h | h); exact hA h; exact hB h)]
      have f1 : (decide (lo = j) && decide (up = i)) = false := by
        by_cases h : lo = j
        · by_cases k : up = i
          · exact absurd ⟨h, k⟩ hB
          · simp [k]
        · simp [h]
      have f2 : (decide (up = j) && decide (lo = i)) = false := by
        by_cases h : up = j
        · by_cases k : lo = i
          · exact absurd ⟨k, h⟩ hA
          · simp [k]
        · simp [h]
      rw [Bool.and_assoc, Bool.and_assoc, Bool.and_assoc, f1, f2]
      simp
theorem link_even {d : Dia} (hs : SoundP d) (hp : PlanarP d) {i j : Int} (hij : i ≠ j) : ∃ k : Int, linkSum d i j = 2 * k := by
  have hz : Strands d fun q => decide ((compOf d).getD (arcQ d q).toNat 0 = i) := ⟨fun q hq => by show decide _ = decide _; rw [hs.other_arc hq], fun q hq => by show decide _ = decide _; rw [hs.comp_rot hq]⟩
  obtain ⟨col, hcol⟩ := colour hs hp hz
  have rot3 : ∀ q, q < 4 * d.cross.length → col (rotQ 3 q) = (col q ^^ decide ((compOf d).getD (arcQ d q).toNat 0 = i)) := fun q hq => by
    have ho := hs.other_lt hq
    have h1 := (hcol _ ho).1
    rw [step_rot, hs.other_other hq, (hcol q hq).2] at h1
    exact h1
  have even := even_moves (S := (List.range (4 * d.cross.length)).filter fun q => innQ d q && decide ((compOf d).getD (arcQ d q).toNat 0 = j)) (ν := fun q => otherQ d (rotQ 2 q)) (col := col) (t := fun q => decide ((compOf d).getD (arcQ d (rotQ 3 q)).toNat 0 = i))
    (List.Pairwise.filter _ List.pairwise_lt_range) (fun q hq => by
      obtain ⟨h1, h2⟩ := List.mem_filter.1 hq
      have h1 := List.mem_range.1 h1
      have h3 := rotQ_lt (k := 2) h1
      rw [Bool.and_eq_true] at h2
      refine List.mem_filter.2 ⟨List.mem_range.2 (hs.other_lt h3), ?_⟩
      rw [Bool.and_eq_true, hs.other_inn h3, hs.inn_rot h1, hs.other_arc h3, hs.comp_rot h1]
      exact ⟨by rw [h2.1]; rfl, h2.2⟩) (fun q hq q' hq' e => by
      have h1 := List.mem_range.1 (List.mem_filter.1 hq).1
      have h1' := List.mem_range.1 (List.mem_filter.1 hq').1
      have h3 := rotQ_lt (k := 2) h1
      have h3' := rotQ_lt (k := 2) h1'
      have e2 : rotQ 2 q = rotQ 2 q' := by rw [← hs.other_other h3, e, hs.other_other h3']
      rw [← rotQ_22 q, e2, rotQ_22]) (fun q hq => by
      obtain ⟨h1, h2⟩ := List.mem_filter.1 hq
      have h1 := List.mem_range.1 h1
      have h3 := rotQ_lt (k := 2) h1
      have h3' := rotQ_lt (k := 3) h1
      rw [Bool.and_eq_true] at h2
      have hj := of_decide_eq_true h2.2
      have hn : decide ((compOf d).getD (arcQ d q).toNat 0 = i) = false := decide_eq_false (by rw [hj]; exact fun e => hij e.symm)
      rw [(hcol _ h3).2]
      show (col (rotQ 2 q) ^^ decide _) = _
      rw [hs.comp_rot h1, hn, Bool.xor_false, show rotQ 2 q = rotQ 3 (rotQ 3 q) by simp only [rotQ]; omega, rot3 _ h3', rot3 _ h1, hn, Bool.xor_false])
  rw [List.filter_filter] at even
  have key : ∀ c, c ≤ d.cross.length → ∃ m : Int, linkTo (compOf d) d.cross i j c = (((List.range (4 * c)).filter (lkT d i j)).length : Int) + 2 * m := fun c => by
    induction c with
    | zero => exact fun _ => ⟨0, by simp [linkTo]⟩
    | succ c ih =>
      intro hc
      obtain ⟨m, hm⟩ := ih (by omega)
      obtain ⟨m2, hm2⟩ := lk_four hs hij (c := c) (by omega)
      refine ⟨m + m2, ?_⟩
      rw [linkTo_succ (crAt_get (by omega)), hm, hm2, show 4 * (c + 1) = 4 * c + 1 + 1 + 1 + 1 by omega, List.range_succ, List.range_succ, List.range_succ, List.range_succ]
      have one : ∀ q, ((([q] : List Nat).filter (lkT d i j)).length : Int) = (lkT d i j q).toNat := fun q => by
        cases h : lkT d i j q <;> simp [h]
      simp only [List.filter_append, List.length_append, Int.natCast_add, one]
      rw [show 4 * c + 1 + 1 = 4 * c + 2 by omega, show 4 * c + 2 + 1 = 4 * c + 3 by omega]
      omega
  obtain ⟨m, hm⟩ := key d.cross.length (Nat.le_refl _)
  obtain ⟨k, hk⟩ := even
  have hf : (List.range (4 * d.cross.length)).filter (lkT d i j) = (List.range (4 * d.cross.length)).filter fun a => decide ((compOf d).getD (arcQ d (rotQ 3 a)).toNat 0 = i) && (innQ d a && decide ((compOf d).getD (arcQ d a).toNat 0 = j)) := List.filter_congr fun q _ => by rw [lkT, Bool.and_comm]
  rw [hf, hk] at hm
  exact ⟨k + m, by rw [linkSum, hm]; omega⟩
end Go.V
