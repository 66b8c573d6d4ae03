/- Plain laws, part u: colours of the regions of a planar diagram; two components cross an even number of times. -/
import Derived.Test.YtbodmnijpdffaaaDoorDo
namespace Go.V
open Go
def tw (u : Nat) : Nat := 2 * (u / 2) + (u % 2 + 1) % 2
theorem tw_div (u : Nat) : tw u / 2 = u / 2 := by simp only [tw]; omega
theorem tw_mod (u : Nat) : tw u % 2 = (u % 2 + 1) % 2 := by simp only [tw]; omega
theorem tw_P {d : Dia} {c0 u : Nat} (h : cvP d c0 u) : cvP d c0 (tw u) := by show inP d c0 (tw u / 2); rw [tw_div]; exact h
theorem tw_R (z : Nat → Bool) (u : Nat) : cvR z (tw u) = tw (cvR z u) := by
  have h := cvR_div z u
  have k := cvR_mod z u
  rw [cvR, tw_div, tw_mod, tw, h, k]; omega
theorem tw_A (d : Dia) (z : Nat → Bool) (u : Nat) : cvA d z (tw u) = tw (cvA d z u) := by
  have h := cvA_div d z u
  have k := cvA_mod d z u
  rw [cvA, tw_div, tw_mod, tw, h, k]; omega
section
variable {d : Dia} {z : Nat → Bool} {c0 : Nat}
/-- Joined in the cover. -/
abbrev KK (d : Dia) (z : Nat → Bool) (c0 : Nat) : Nat → Nat → Prop := cRel (cvR z) (cvA d z) (cvP d c0) (8 * d.cross.length)
theorem kk_eqv (hs : SoundP d) (hz : Strands d z) : Eqv (KK d z c0) (cvP d c0) := cRel_eqv (cv_perm d z c0) (cv_pairs hs hz c0) _
theorem kk_R (u : Nat) : KK d z c0 u (cvR z u) := cRel_rho _
theorem kk_A (hs : SoundP d) (hz : Strands d z) {u : Nat} (hu : cvP d c0 u) : KK d z c0 u (cvA d z u) := cRel_alpha (cv_perm d z c0) (cv_pairs hs hz c0) hu
theorem kk_tw (hs : SoundP d) (hz : Strands d z) {u v : Nat} (hu : cvP d c0 u) (hv : cvP d c0 v) (k : KK d z c0 u v) : KK d z c0 (tw u) (tw v) := by
  have e := kk_eqv (c0 := c0) hs hz
  refine cRel_into (R := fun u v => KK d z c0 (tw u) (tw v)) (N := 8 * d.cross.length) (cv_pairs hs hz c0) ⟨fun x hx => e.refl _ (tw_P hx), fun x y hx hy r => e.symm _ _ (tw_P hx) (tw_P hy) r, fun x y w hx hy hw r s => e.trans _ _ _ (tw_P hx) (tw_P hy) (tw_P hw) r s⟩
    (fun x _ => ?_) (cv_perm d z c0).into (fun x hx => ?_) _ u v hu hv k
  · show KK d z c0 (tw x) (tw (cvR z x)); rw [← tw_R]; exact kk_R _
  · show KK d z c0 (tw x) (tw (cvA d z x)); rw [← tw_A]; exact kk_A hs hz (tw_P hx)
theorem cvP_mk {q s : Nat} (h : inP d c0 q) (hs : s < 2) : cvP d c0 (2 * q + s) := by show inP d c0 ((2 * q + s) / 2); rwa [show (2 * q + s) / 2 = q by omega]
theorem kk_round (hs : SoundP d) (hz : Strands d z) {w x s : Nat} (hw : cvP d c0 w) (hx : inP d c0 x) (hs2 : s < 2) (k : KK d z c0 w (2 * x + s)) {p : Nat} (hp : p < 4) : ∃ s', s' < 2 ∧ KK d z c0 w (2 * (4 * (x / 4) + p) + s') := by
  have e := kk_eqv (c0 := c0) hs hz
  have key : ∀ j, inP d c0 (4 * (x / 4) + (x % 4 + 3 * j) % 4) ∧ ∃ s', s' < 2 ∧ KK d z c0 w (2 * (4 * (x / 4) + (x % 4 + 3 * j) % 4) + s') := fun j => by
    induction j with
    | zero =>
      have e1 : 4 * (x / 4) + (x % 4 + 3 * 0) % 4 = x := by omega
      rw [e1]; exact ⟨hx, s, hs2, k⟩
    | succ j ih =>
      obtain ⟨hi, s', hs', hk⟩ := ih
      have e1 : rotQ 3 (4 * (x / 4) + (x % 4 + 3 * j) % 4) = 4 * (x / 4) + (x % 4 + 3 * (j + 1)) % 4 := by simp only [rotQ]; omega
      have h2 := hi.rot 3
      rw [e1] at h2
      have hu := cvP_mk hi hs'
      have hv := (cv_perm d z c0).into _ hu
      have hr := e.trans _ _ _ hw hu hv hk (kk_R _)
      refine ⟨h2, cvR z (2 * (4 * (x / 4) + (x % 4 + 3 * j) % 4) + s') % 2, by omega, ?_⟩
      have e2 := cvR_div z (2 * (4 * (x / 4) + (x % 4 + 3 * j) % 4) + s')
      rw [show (2 * (4 * (x / 4) + (x % 4 + 3 * j) % 4) + s') / 2 = 4 * (x / 4) + (x % 4 + 3 * j) % 4 by omega, e1] at e2
      rwa [show 2 * (4 * (x / 4) + (x % 4 + 3 * (j + 1)) % 4) + cvR z (2 * (4 * (x / 4) + (x % 4 + 3 * j) % 4) + s') % 2 = cvR z (2 * (4 * (x / 4) + (x % 4 + 3 * j) % 4) + s') by omega]
  have := (key ((x % 4 + 4 - p) % 4)).2
  rwa [show (x % 4 + 3 * ((x % 4 + 4 - p) % 4)) % 4 = p by omega] at this
theorem kk_lift (hs : SoundP d) (hz : Strands d z) {q : Nat} (hq : inP d c0 q) {c : Nat} (hc : Conn d (q / 4) c) : ∀ p, p < 4 → ∃ s, s < 2 ∧ KK d z c0 (2 * q) (2 * (4 * c + p) + s) := by
  have e := kk_eqv (c0 := c0) hs hz
  have hw : cvP d c0 (2 * q) := cvP_mk (s := 0) hq (by omega)
  induction hc with
  | refl => exact fun p hp => kk_round hs hz hw hq (s := 0) (by omega) (e.refl _ hw) hp
  | @step c p hc hp ih =>
    intro p' hp'
    obtain ⟨s, hs2, hk⟩ := ih p hp
    have hcl : c < d.cross.length := hc.lt hs (by have := hq.1; omega)
    have hi : inP d c0 (4 * c + p) := ⟨by omega, by rw [show (4 * c + p) / 4 = c by omega]; exact hq.2.trans hc⟩
    have hu := cvP_mk hi hs2
    have hv := (cv_pairs hs hz c0).into _ hu
    have hr := e.trans _ _ _ hw hu hv hk (kk_A hs hz hu)
    have e2 := cvA_div d z (2 * (4 * c + p) + s)
    rw [show (2 * (4 * c + p) + s) / 2 = 4 * c + p by omega] at e2
    refine kk_round hs hz hw (hi.other hs) (s := cvA d z (2 * (4 * c + p) + s) % 2) (by omega) ?_ hp'
    rwa [show 2 * otherQ d (4 * c + p) + cvA d z (2 * (4 * c + p) + s) % 2 = cvA d z (2 * (4 * c + p) + s) by omega]
theorem kk_apart (hs : SoundP d) (hp : PlanarP d) (hz : Strands d z) (hc : c0 < d.cross.length) {q : Nat} (hq : inP d c0 q) : ¬ KK d z c0 (2 * q) (2 * q + 1) := fun k => by
  have e := kk_eqv (c0 := c0) hs hz
  have h2 : 2 ≤ ncl (KK d z c0) (cvP d c0) (8 * d.cross.length) := cv_parts hs hp hz hc
  have hw : cvP d c0 (2 * q) := cvP_mk (s := 0) hq (by omega)
  have hw1 : cvP d c0 (2 * q + 1) := cvP_mk (s := 1) hq (by omega)
  have := ncl_one (N := 8 * d.cross.length) e ((cv_perm d z c0).lt _ hw) hw fun u _ hu => by
    have hcn : Conn d (q / 4) (u / 2 / 4) := (hq.2.symm hs hc).trans hu.2
    obtain ⟨s, hs2, hk⟩ := kk_lift hs hz hq hcn (u / 2 % 4) (by omega)
    rw [show 4 * (u / 2 / 4) + u / 2 % 4 = u / 2 by omega] at hk
    by_cases h : u = 2 * (u / 2) + s
    · rwa [← h] at hk
    · have hv := cvP_mk hu hs2
      have ht := kk_tw hs hz hw hv hk
      rw [show tw (2 * q) = 2 * q + 1 by simp only [tw]; omega, show tw (2 * (u / 2) + s) = u by simp only [tw]; omega] at ht
      exact e.trans _ _ _ hw hw1 hu k ht
  omega
theorem kk_one (hs : SoundP d) (hp : PlanarP d) (hz : Strands d z) (hc : c0 < d.cross.length) {q : Nat} (hq : inP d c0 q) : KK d z c0 (8 * c0) (2 * q) ↔ ¬ KK d z c0 (8 * c0) (2 * q + 1) := by
  have e := kk_eqv (c0 := c0) hs hz
  have h0 : inP d c0 (4 * c0) := ⟨by omega, by rw [show 4 * c0 / 4 = c0 by omega]; exact .refl⟩
  have hb : cvP d c0 (8 * c0) := by have := cvP_mk (s := 0) h0 (by omega); rwa [show 2 * (4 * c0) + 0 = 8 * c0 by omega] at this
  have hw : cvP d c0 (2 * q) := cvP_mk (s := 0) hq (by omega)
  have hw1 : cvP d c0 (2 * q + 1) := cvP_mk (s := 1) hq (by omega)
  constructor
  · exact fun a b => kk_apart hs hp hz hc hq (e.trans _ _ _ hw hb hw1 (e.symm _ _ hb hw a) b)
  · intro hn
    obtain ⟨s, hs2, hk⟩ := kk_lift hs hz h0 (c := q / 4) (by rw [show 4 * c0 / 4 = c0 by omega]; exact hq.2) (q % 4) (by omega)
    rw [show 4 * (q / 4) + q % 4 = q by omega, show 2 * (4 * c0) = 8 * c0 by omega] at hk
    match s, hs2 with
    | 0, _ => exact hk
    | 1, _ => exact absurd hk hn
theorem colour_piece (hs : SoundP d) (hp : PlanarP d) (hz : Strands d z) (hc : c0 < d.cross.length) : ∃ col : Nat → Bool, ∀ q, inP d c0 q → col (stepQ d q) = col q ∧ col (otherQ d q) = (col q ^^ z q) := by
  have e := kk_eqv (c0 := c0) hs hz
  have h0 : inP d c0 (4 * c0) := ⟨by omega, by rw [show 4 * c0 / 4 = c0 by omega]; exact .refl⟩
  have hb : cvP d c0 (8 * c0) := by have := cvP_mk (s := 0) h0 (by omega); rwa [show 2 * (4 * c0) + 0 = 8 * c0 by omega] at this
  refine ⟨fun q => tb (KK d z c0 (8 * c0) (2 * q)), fun q hq => ?_⟩
  have hw : cvP d c0 (2 * q) := cvP_mk (s := 0) hq (by omega)
  have hA := (cv_pairs hs hz c0).into _ hw
  have hR := (cv_perm d z c0).into _ hA
  have kA := kk_A hs hz hw
  have kR := e.trans _ _ _ hw hA hR kA (kk_R _)
  have e1 := cv_phi hs hz hw
  rw [show 2 * q / 2 = q by omega, show 2 * q % 2 = 0 by omega] at e1
  rw [e1] at kR hR
  have e2 : cvA d z (2 * q) = 2 * otherQ d q + zz z q := by
    have := zz_lt z q
    rw [cvA, show 2 * q / 2 = q by omega]; omega
  rw [e2] at kA hA
  constructor
  · show tb _ = tb _
    rw [Bool.eq_iff_iff, tb_iff, tb_iff]
    exact ⟨fun k => e.trans _ _ _ hb hR hw k (e.symm _ _ hw hR kR), fun k => e.trans _ _ _ hb hw hR k kR⟩
  · show tb _ = (tb _ ^^ z q)
    cases hzq : z q with
    | false =>
      rw [zz, hzq] at kA hA
      rw [Bool.xor_false, Bool.eq_iff_iff, tb_iff, tb_iff]
      exact ⟨fun k => e.trans _ _ _ hb hA hw k (e.symm _ _ hw hA kA), fun k => e.trans _ _ _ hb hw hA k kA⟩
    | true =>
      rw [zz, hzq, if_pos rfl] at kA hA
      rw [Bool.xor_true, Bool.eq_iff_iff, tb_iff, Bool.not_eq_true', ← Bool.not_eq_true, tb_iff]
      rw [kk_one hs hp hz hc (hq.other hs)]
      exact not_congr ⟨fun k => e.trans _ _ _ hb hA hw k (e.symm _ _ hw hA kA), fun k => e.trans _ _ _ hb hw hA k kA⟩
end
/-- The regions of a planar diagram can be coloured: the colour changes exactly at the arcs of the set. -/
theorem colour {d : Dia} {z : Nat → Bool} (hs : SoundP d) (hp : PlanarP d) (hz : Strands d z) : ∃ col : Nat → Bool, ∀ q, q < 4 * d.cross.length → col (stepQ d q) = col q ∧ col (otherQ d q) = (col q ^^ z q) := by
  obtain ⟨f, hf⟩ := Classical.axiomOfChoice (r := fun (c0 : Nat) (col : Nat → Bool) => c0 < d.cross.length → ∀ q, inP d c0 q → col (stepQ d q) = col q ∧ col (otherQ d q) = (col q ^^ z q)) fun c0 => by
    by_cases h : c0 < d.cross.length
    · obtain ⟨col, hc⟩ := colour_piece hs hp hz h; exact ⟨col, fun _ => hc⟩
    · exact ⟨fun _ => false, fun k => absurd k h⟩
  refine ⟨fun q => f ((pieceOf d (q / 4)).headD 0) q, fun q hq => ?_⟩
  have hl : q / 4 < d.cross.length := by omega
  obtain ⟨m, hm⟩ := piece_first d hl
  have hmm : (pieceOf d (q / 4)).headD 0 = m := by
    cases h : pieceOf d (q / 4) with
    | nil => rw [h] at hm; simp at hm
    | cons a l => rw [h] at hm; simp at hm; simp [hm]
  obtain ⟨hml, hmc⟩ := mem_piece.1 (List.mem_of_getElem? hm)
  have hin : inP d m q := ⟨hq, hmc.symm hs hl⟩
  have c1 : Conn d (q / 4) (otherQ d q / 4) := by
    have := Conn.step (d := d) (a := q / 4) (p := q % 4) .refl (by omega)
    rwa [show 4 * (q / 4) + q % 4 = q by omega] at this
  have p1 := piece_congr hs hl c1
  have h1 := hf m hml q hin
  show f ((pieceOf d (stepQ d q / 4)).headD 0) _ = f ((pieceOf d (q / 4)).headD 0) _ ∧ f ((pieceOf d (otherQ d q / 4)).headD 0) _ = (f ((pieceOf d (q / 4)).headD 0) _ ^^ z q)
  rw [step_div, ← p1, hmm]
  exact h1
/-! ### Evenness -/
theorem filter_len_all (S : List Nat) (p : Nat → Bool) : S.length = (S.filter p).length + (S.filter fun q => !p q).length := by
  induction S with
  | nil => rfl
  | cons x l ih => simp only [List.filter_cons]; cases h : p x <;> simp <;> omega
theorem filter_xor (S : List Nat) (f g : Nat → Bool) : (S.filter fun q => f q ^^ g q).length + 2 * (S.filter fun q => f q && g q).length = (S.filter f).length + (S.filter g).length := by
  induction S with
  | nil => rfl
  | cons x l ih => simp only [List.filter_cons]; cases h : f x <;> cases k : g x <;> simp <;> omega
theorem even_moves {S : List Nat} {ν : Nat → Nat} {col t : Nat → Bool} (hS : S.Pairwise (· < ·)) (hi : ∀ q ∈ S, ν q ∈ S) (hj : ∀ q ∈ S, ∀ q' ∈ S, ν q = ν q' → q = q') (hc : ∀ q ∈ S, col (ν q) = (col q ^^ t q)) : ∃ k, (S.filter t).length = 2 * k := by
  have le : ∀ p : Nat → Bool, (S.filter fun q => p (ν q)).length ≤ (S.filter p).length := fun p => by
    refine inj_len (fun x y => y = ν x) _ _ (fun x hx => ?_) ?_
    · obtain ⟨h1, h2⟩ := List.mem_filter.1 hx
      exact ⟨ν x, List.mem_filter.2 ⟨hi x h1, h2⟩, rfl⟩
    · refine List.Pairwise.imp_of_mem ?_ (hS.filter _)
      intro x y hx hy hxy b _ e1 e2
      have := hj x (List.mem_filter.1 hx).1 y (List.mem_filter.1 hy).1 (e1.symm.trans e2)
      omega
  have h1 := le col
  have h2 := le fun q => !col q
  have h3 := filter_len_all S col
  have h4 := filter_len_all S fun q => col (ν q)
  have h5 := filter_xor S col fun q => col (ν q)
  have h6 : (S.filter fun q => col q ^^ col (ν q)) = S.filter t := List.filter_congr fun q hq => by rw [hc q hq]; cases col q <;> cases t q <;> rfl
  rw [h6] at h5
  exact ⟨(S.filter col).length - (S.filter fun q => col q && col (ν q)).length, by omega⟩
def lkT (d : Dia) (i j : Int) (q : Nat) : Bool := innQ d q && decide ((compOf d).getD (arcQ d q).toNat 0 = j) && decide ((compOf d).getD (arcQ d (rotQ 3 q)).toNat 0 = i)
theorem lk_four {d : Dia} (hs : SoundP d) {i j : Int} (hij : i ≠ j) {c : Nat} (hc : c < d.cross.length) : ∃ m : Int, linkOne (compOf d) i j (crAt d c) = (lkT d i j (4 * c)).toNat + (lkT d i j (4 * c + 1)).toNat + (lkT d i j (4 * c + 2)).toNat + (lkT d i j (4 * c + 3)).toNat + 2 * m := by
  have h1 := hs.comp_lo hc
  have h2 := hs.comp_hi hc
  have hsg := hs.sgn hc
  have e0 : lkT d i j (4 * c) = ((crAt d c).inn 0 && decide (lowC (compOf d) (crAt d c) = j) && decide (upC (compOf d) (crAt d c) = i)) := by
    simp only [lkT, innQ, arcQ, rotQ_div, rotQ_mod, show 4 * c / 4 = c by omega, show 4 * c % 4 = 0 by omega]
    show (_ && decide ((compOf d).getD (crAt d c).a0.toNat 0 = j) && decide ((compOf d).getD (crAt d c).a3.toNat 0 = i)) = _
    rw [h2]; rfl
  have e1 : lkT d i j (4 * c + 1) = ((crAt d c).inn 1 && decide (upC (compOf d) (crAt d c) = j) && decide (lowC (compOf d) (crAt d c) = i)) := by
    simp only [lkT, innQ, arcQ, rotQ_div, rotQ_mod, show (4 * c + 1) / 4 = c by omega, show (4 * c + 1) % 4 = 1 by omega]
    rfl
  have e2 : lkT d i j (4 * c + 2) = false := by
    simp only [lkT, innQ, show (4 * c + 2) / 4 = c by omega, show (4 * c + 2) % 4 = 2 by omega]
    rcases hsg with h | h <;> simp [Cr.inn]
  have e3 : lkT d i j (4 * c + 3) = ((crAt d c).inn 3 && decide (upC (compOf d) (crAt d c) = j) && decide (lowC (compOf d) (crAt d c) = i)) := by
    simp only [lkT, innQ, arcQ, rotQ_div, rotQ_mod, show (4 * c + 3) / 4 = c by omega, show (4 * c + 3) % 4 = 3 by omega]
    show (_ && decide ((compOf d).getD (crAt d c).a3.toNat 0 = j) && decide ((compOf d).getD (crAt d c).a2.toNat 0 = i)) = _
    rw [h1, h2]; rfl
  rw [e0, e1, e2, e3, linkOne]
  generalize lowC (compOf d) (crAt d c) = lo
  generalize upC (compOf d) (crAt d c) = up
  generalize crAt d c = x at hsg ⊢
  obtain ⟨a0, a1, a2, a3, s⟩ := x
  simp only at hsg
  by_cases hA : lo = i ∧ up = j
  · obtain ⟨rfl, rfl⟩ := hA
    have hne : ¬ up = lo := fun e => hij e.symm
    rcases hsg with h | h <;> subst h
    · exact ⟨0, by simp [Cr.inn, hij, hne]⟩
    · exact ⟨-1, by simp [Cr.inn, hij, hne]⟩
  · by_cases hB : lo = j ∧ up = i
    · obtain ⟨rfl, rfl⟩ := hB
      have hne : ¬ lo = up := fun e => hij e.symm
      rcases hsg with h | h <;> subst h
      · exact ⟨0, by simp [Cr.inn, hij, hne]⟩
      · exact ⟨-1, by simp [Cr.inn, hij, hne]⟩
    · refine ⟨0, ?_⟩
      rw [if_neg (by rintro (h | h); exact hA h; exact hB h)]
      have f1 : (decide (lo = j) && decide (up = i)) = false := by
        by_cases h : lo = j
        · by_cases k : up = i
          · exact absurd ⟨h, k⟩ hB
          · simp [k]
        · simp [h]
      have f2 : (decide (up = j) && decide (lo = i)) = false := by
        by_cases h : up = j
        · by_cases k : lo = i
          · exact absurd ⟨k, h⟩ hA
          · simp [k]
        · simp [h]
      rw [Bool.and_assoc, Bool.and_assoc, Bool.and_assoc, f1, f2]
      simp
theorem link_even {d : Dia} (hs : SoundP d) (hp : PlanarP d) {i j : Int} (hij : i ≠ j) : ∃ k : Int, linkSum d i j = 2 * k := by
  have hz : Strands d fun q => decide ((compOf d).getD (arcQ d q).toNat 0 = i) := ⟨fun q hq => by show decide _ = decide _; rw [hs.other_arc hq], fun q hq => by show decide _ = decide _; rw [hs.comp_rot hq]⟩
  obtain ⟨col, hcol⟩ := colour hs hp hz
  have rot3 : ∀ q, q < 4 * d.cross.length → col (rotQ 3 q) = (col q ^^ decide ((compOf d).getD (arcQ d q).toNat 0 = i)) := fun q hq => by
    have ho := hs.other_lt hq
    have h1 := (hcol _ ho).1
    rw [step_rot, hs.other_other hq, (hcol q hq).2] at h1
    exact h1
  have even := even_moves (S := (List.range (4 * d.cross.length)).filter fun q => innQ d q && decide ((compOf d).getD (arcQ d q).toNat 0 = j)) (ν := fun q => otherQ d (rotQ 2 q)) (col := col) (t := fun q => decide ((compOf d).getD (arcQ d (rotQ 3 q)).toNat 0 = i))
    (List.Pairwise.filter _ List.pairwise_lt_range) (fun q hq => by
      obtain ⟨h1, h2⟩ := List.mem_filter.1 hq
      have h1 := List.mem_range.1 h1
      have h3 := rotQ_lt (k := 2) h1
      rw [Bool.and_eq_true] at h2
      refine List.mem_filter.2 ⟨List.mem_range.2 (hs.other_lt h3), ?_⟩
      rw [Bool.and_eq_true, hs.other_inn h3, hs.inn_rot h1, hs.other_arc h3, hs.comp_rot h1]
      exact ⟨by rw [h2.1]; rfl, h2.2⟩) (fun q hq q' hq' e => by
      have h1 := List.mem_range.1 (List.mem_filter.1 hq).1
      have h1' := List.mem_range.1 (List.mem_filter.1 hq').1
      have h3 := rotQ_lt (k := 2) h1
      have h3' := rotQ_lt (k := 2) h1'
      have e2 : rotQ 2 q = rotQ 2 q' := by rw [← hs.other_other h3, e, hs.other_other h3']
      rw [← rotQ_22 q, e2, rotQ_22]) (fun q hq => by
      obtain ⟨h1, h2⟩ := List.mem_filter.1 hq
      have h1 := List.mem_range.1 h1
      have h3 := rotQ_lt (k := 2) h1
      have h3' := rotQ_lt (k := 3) h1
      rw [Bool.and_eq_true] at h2
      have hj := of_decide_eq_true h2.2
      have hn : decide ((compOf d).getD (arcQ d q).toNat 0 = i) = false := decide_eq_false (by rw [hj]; exact fun e => hij e.symm)
      rw [(hcol _ h3).2]
      show (col (rotQ 2 q) ^^ decide _) = _
      rw [hs.comp_rot h1, hn, Bool.xor_false, show rotQ 2 q = rotQ 3 (rotQ 3 q) by simp only [rotQ]; omega, rot3 _ h3', rot3 _ h1, hn, Bool.xor_false])
  rw [List.filter_filter] at even
  have key : ∀ c, c ≤ d.cross.length → ∃ m : Int, linkTo (compOf d) d.cross i j c = (((List.range (4 * c)).filter (lkT d i j)).length : Int) + 2 * m := fun c => by
    induction c with
    | zero => exact fun _ => ⟨0, by simp [linkTo]⟩
    | succ c ih =>
      intro hc
      obtain ⟨m, hm⟩ := ih (by omega)
      obtain ⟨m2, hm2⟩ := lk_four hs hij (c := c) (by omega)
      refine ⟨m + m2, ?_⟩
      rw [linkTo_succ (crAt_get (by omega)), hm, hm2, show 4 * (c + 1) = 4 * c + 1 + 1 + 1 + 1 by omega, List.range_succ, List.range_succ, List.range_succ, List.range_succ]
      have one : ∀ q, ((([q] : List Nat).filter (lkT d i j)).length : Int) = (lkT d i j q).toNat := fun q => by
        cases h : lkT d i j q <;> simp [h]
      simp only [List.filter_append, List.length_append, Int.natCast_add, one]
      rw [show 4 * c + 1 + 1 = 4 * c + 2 by omega, show 4 * c + 2 + 1 = 4 * c + 3 by omega]
      omega
  obtain ⟨m, hm⟩ := key d.cross.length (Nat.le_refl _)
  obtain ⟨k, hk⟩ := even
  have hf : (List.range (4 * d.cross.length)).filter (lkT d i j) = (List.range (4 * d.cross.length)).filter fun a => decide ((compOf d).getD (arcQ d (rotQ 3 a)).toNat 0 = i) && (innQ d a && decide ((compOf d).getD (arcQ d a).toNat 0 = j)) := List.filter_congr fun q _ => by rw [lkT, Bool.and_comm]
  rw [hf, hk] at hm
  exact ⟨k + m, by rw [linkSum, hm]; omega⟩
end Go.V
/- Plain laws, part v: linking numbers and writhes of changed diagrams; lists of numbers that a call owns. -/
namespace Go.V
open Go
theorem IntsAt.of_own {w : World} {b : Option Addr} {c : Nat} {xs : List Int} (h : w.ownsRow 0 3 1 (.slice b xs.length c) xs.length (ints xs)) : IntsAt w b (vaddr (.slice b xs.length c)) c xs := by
  have hall := own_all h
  rcases h.2 with ⟨hv, h0⟩ | ⟨g, cap, cur, hv, _, _, hle, hcap, _⟩
  · injection hv with e1 e2 e3
    subst e1; subst e3
    exact ⟨fun k => by omega, hall, by omega, by omega⟩
  · injection hv with e1 e2 e3
    subst e1; subst e3
    exact ⟨fun _ => rfl, hall, hle, by have : maxLen = 9223372036854775807 := rfl; omega⟩
/-- The numbers below k. -/
def upTo (k : Nat) : List Int := (List.range k).map fun i : Nat => (i : Int)
theorem upTo_len (k : Nat) : (upTo k).length = k := by simp [upTo]
theorem upTo_succ (k : Nat) : upTo (k + 1) = upTo k ++ [(k : Int)] := by simp [upTo, List.range_succ]
theorem mem_upTo {k : Nat} {x : Int} : x ∈ upTo k ↔ 0 ≤ x ∧ x < k := by
  rw [upTo, List.mem_map]
  constructor
  · rintro ⟨i, hi, rfl⟩; have := List.mem_range.1 hi; omega
  · rintro ⟨h0, h1⟩; exact ⟨x.toNat, List.mem_range.2 (by omega), by omega⟩
theorem upTo_dist (k : Nat) : distB (upTo k) (k : Int) = true := by
  refine decide_eq_true ⟨?_, fun x hx => mem_upTo.1 hx⟩
  rw [List.nodup_iff_pairwise_ne, upTo, List.pairwise_map]
  exact List.pairwise_lt_range.imp fun h e => by omega
theorem one_dist {i n : Int} (h0 : 0 ≤ i) (h1 : i < n) : distB [i] n = true := decide_eq_true ⟨by simp, fun x hx => by rw [List.mem_singleton.1 hx]; exact ⟨h0, h1⟩⟩
/-! ### Writhe and linking numbers -/
theorem sum_neg (l : List Int) : (l.map fun x => -x).sum = -l.sum := by
  induction l with
  | nil => rfl
  | cons x l ih => simp only [List.map_cons, List.sum_cons, ih]; omega
theorem writhe_map {f : Cr → Cr} {d : Dia} (e : Int) (h : ∀ x ∈ d.cross, (f x).s = e * x.s) : writhe (mapD f d) = e * writhe d := by
  simp only [writhe, writheTo, List.take_length, mapD, List.map_map]
  have : ∀ l : List Cr, (∀ x ∈ l, (f x).s = e * x.s) → (l.map (Cr.s ∘ f)).sum = e * (l.map Cr.s).sum := fun l => by
    induction l with
    | nil => intro _; simp
    | cons x l ih =>
      intro hl
      simp only [List.map_cons, List.sum_cons, ih (fun y hy => hl y (List.mem_cons_of_mem _ hy)), Int.mul_add]
      rw [Function.comp, hl x List.mem_cons_self]
  exact this d.cross h
theorem writhe_mir {d : Dia} (hs : SoundP d) : writhe (mirD d) = -writhe d := by
  have := writhe_map (f := mirCr) (d := d) (-1) fun x hx => by rw [mir_sgn (hs.sgn_mem hx)]; omega
  rw [mirD, this]; omega
theorem link_map {f : Cr → Cr} {d : Dia} {i j : Int} (of : List Int) (e : Int) (h : ∀ x ∈ d.cross, linkOne of i j (f x) = e * linkOne of i j x) : linkTo of (mapD f d).cross i j d.cross.length = e * linkTo of d.cross i j d.cross.length := by
  simp only [linkTo, mapD, List.take_length]
  rw [show d.cross.length = (d.cross.map f).length by simp, List.take_length, List.map_map]
  have : ∀ l : List Cr, (∀ x ∈ l, linkOne of i j (f x) = e * linkOne of i j x) → (l.map (linkOne of i j ∘ f)).sum = e * (l.map (linkOne of i j)).sum := fun l => by
    induction l with
    | nil => intro _; simp
    | cons x l ih =>
      intro hl
      simp only [List.map_cons, List.sum_cons, ih (fun y hy => hl y (List.mem_cons_of_mem _ hy)), Int.mul_add]
      rw [Function.comp, hl x List.mem_cons_self]
  exact this d.cross h
theorem linkSum_map {f : Cr → Cr} {d : Dia} {i j : Int} (e : Int) (hc : compOf (mapD f d) = compOf d) (h : ∀ x ∈ d.cross, linkOne (compOf d) i j (f x) = e * linkOne (compOf d) i j x) : linkSum (mapD f d) i j = e * linkSum d i j := by
  rw [linkSum, hc, mapD_len, link_map (compOf d) e h, linkSum]
theorem link_mir {d : Dia} (hs : SoundP d) (i j : Int) : linkSum (mirD d) i j = -linkSum d i j := by
  have := linkSum_map (f := mirCr) (i := i) (j := j) (-1) (mir_comp hs).1 fun x hx => by
    obtain ⟨c, hc, rfl⟩ := mem_at hx
    have h1 := hs.comp_lo hc
    have h2 := hs.comp_hi hc
    have hs := hs.sgn hc
    generalize compOf d = of at h1 h2 ⊢
    generalize crAt d c = x at h1 h2 hs ⊢
    obtain ⟨a0, a1, a2, a3, s⟩ := x
    simp only at h1 h2 hs
    rcases hs with h | h <;> subst h
    · show (if of.getD a3.toNat 0 = i ∧ of.getD a0.toNat 0 = j ∨ of.getD a3.toNat 0 = j ∧ of.getD a0.toNat 0 = i then (-1 : Int) else 0) = -1 * (if of.getD a0.toNat 0 = i ∧ of.getD a1.toNat 0 = j ∨ of.getD a0.toNat 0 = j ∧ of.getD a1.toNat 0 = i then (1 : Int) else 0)
      rw [h2]
      by_cases hk : of.getD a0.toNat 0 = i ∧ of.getD a1.toNat 0 = j ∨ of.getD a0.toNat 0 = j ∧ of.getD a1.toNat 0 = i
      · rw [if_pos hk, if_pos (by omega)]; rfl
      · rw [if_neg hk, if_neg (by omega)]; rfl
    · show (if of.getD a1.toNat 0 = i ∧ of.getD a2.toNat 0 = j ∨ of.getD a1.toNat 0 = j ∧ of.getD a2.toNat 0 = i then (1 : Int) else 0) = -1 * (if of.getD a0.toNat 0 = i ∧ of.getD a1.toNat 0 = j ∨ of.getD a0.toNat 0 = j ∧ of.getD a1.toNat 0 = i then (-1 : Int) else 0)
      rw [h1]
      by_cases hk : of.getD a0.toNat 0 = i ∧ of.getD a1.toNat 0 = j ∨ of.getD a0.toNat 0 = j ∧ of.getD a1.toNat 0 = i
      · rw [if_pos hk, if_pos (by omega)]; rfl
      · rw [if_neg hk, if_neg (by omega)]; rfl
  rw [mirD, this]; omega
theorem link_ref {d : Dia} (hs : SoundP d) (i j : Int) : linkSum (refD d) i j = -linkSum d i j := by
  have := linkSum_map (f := refCr) (i := i) (j := j) (-1) (ref_comp hs).1 fun x hx => by
    obtain ⟨c, hc, rfl⟩ := mem_at hx
    have h2 := hs.comp_hi hc
    show (if lowC (compOf d) (crAt d c) = i ∧ (compOf d).getD (crAt d c).a3.toNat 0 = j ∨ lowC (compOf d) (crAt d c) = j ∧ (compOf d).getD (crAt d c).a3.toNat 0 = i then -(crAt d c).s else 0) = -1 * (if lowC (compOf d) (crAt d c) = i ∧ upC (compOf d) (crAt d c) = j ∨ lowC (compOf d) (crAt d c) = j ∧ upC (compOf d) (crAt d c) = i then (crAt d c).s else 0)
    rw [h2]
    show (if lowC (compOf d) (crAt d c) = i ∧ upC (compOf d) (crAt d c) = j ∨ lowC (compOf d) (crAt d c) = j ∧ upC (compOf d) (crAt d c) = i then -(crAt d c).s else 0) = _
    split <;> omega
  rw [refD, this]; omega
/-- Components at the strands of a reversed crossing. -/
theorem rev_lowup {d : Dia} (hs : SoundP d) (comps : List Int) {c : Nat} (hc : c < d.cross.length) : lowC (compOf d) (revCr (compOf d) comps (crAt d c)) = lowC (compOf d) (crAt d c) ∧ upC (compOf d) (revCr (compOf d) comps (crAt d c)) = upC (compOf d) (crAt d c) := by
  have h1 := hs.comp_lo hc
  have h2 := hs.comp_hi hc
  rw [revCr_eq]
  cases flV d comps (crAt d c).a0 with
  | false => exact ⟨rfl, rfl⟩
  | true => exact ⟨h1, h2⟩
theorem link_rev {d : Dia} (hs : SoundP d) (i j : Int) (comps : List Int) (e : Int) (h : ∀ c, c < d.cross.length → (lowC (compOf d) (crAt d c) = i ∧ upC (compOf d) (crAt d c) = j ∨ lowC (compOf d) (crAt d c) = j ∧ upC (compOf d) (crAt d c) = i) → (revCr (compOf d) comps (crAt d c)).s = e * (crAt d c).s) : linkSum (revD d comps) i j = e * linkSum d i j := by
  refine linkSum_map e (rev_comp hs comps).1 fun x hx => ?_
  obtain ⟨c, hc, rfl⟩ := mem_at hx
  obtain ⟨h1, h2⟩ := rev_lowup hs comps hc
  rw [linkOne, linkOne, h1, h2]
  split
  · rename_i hk; exact h c hc hk
  · omega
theorem link_rev_one {d : Dia} (hs : SoundP d) {i j : Int} (hij : i ≠ j) : linkSum (revD d [i]) i j = -linkSum d i j := by
  have := link_rev hs i j [i] (-1) fun c _ hk => by
    show (if flV d [i] (crAt d c).a0 == flV d [i] (crAt d c).a1 then (crAt d c).s else -(crAt d c).s) = _
    have e0 : flV d [i] (crAt d c).a0 = decide (lowC (compOf d) (crAt d c) = i) := decide_eq_decide.2 List.mem_singleton
    have e1 : flV d [i] (crAt d c).a1 = decide (upC (compOf d) (crAt d c) = i) := decide_eq_decide.2 List.mem_singleton
    rw [e0, e1]
    rcases hk with ⟨h1, h2⟩ | ⟨h1, h2⟩
    · rw [h1, h2, decide_eq_true rfl, decide_eq_false (fun e => hij e.symm)]; show -(crAt d c).s = _; omega
    · rw [h1, h2, decide_eq_true rfl, decide_eq_false (fun e => hij e.symm)]; show -(crAt d c).s = _; omega
  rw [this]; omega
theorem rev_all_sgn {d : Dia} (hs : SoundP d) {n : Nat} (hn : compCount d ≤ n) {c : Nat} (hc : c < d.cross.length) : (revCr (compOf d) (upTo n) (crAt d c)).s = (crAt d c).s := by
  have key : ∀ a : Int, 0 ≤ a → a < 2 * d.cross.length → flV d (upTo n) a = true := fun a h0 h1 => by
    have hl : a.toNat < (compOf d).length := by rw [compOf_len]; omega
    have hm : (compOf d).getD a.toNat 0 ∈ compOf d := List.mem_of_getElem? (getD_get hl 0)
    have g0 := comp_nonneg hm
    have g1 := compTo_lt _ _ _ _ hm
    rw [← compCount] at g1
    exact decide_eq_true (mem_upTo.2 ⟨g0, by omega⟩)
  have b0 := hs.arc hc (p := 0) (by omega)
  have b1 := hs.arc hc (p := 1) (by omega)
  show (if flV d (upTo n) (crAt d c).a0 == flV d (upTo n) (crAt d c).a1 then (crAt d c).s else -(crAt d c).s) = _
  rw [key (crAt d c).a0 b0.1 b0.2, key (crAt d c).a1 b1.1 b1.2]; rfl
theorem link_rev_all {d : Dia} (hs : SoundP d) (i j : Int) {n : Nat} (hn : compCount d ≤ n) : linkSum (revD d (upTo n)) i j = linkSum d i j := by
  have := link_rev hs i j (upTo n) 1 fun c hc _ => by rw [rev_all_sgn hs hn hc]; omega
  rw [this]; omega
theorem writhe_rev_all {d : Dia} (hs : SoundP d) {n : Nat} (hn : compCount d ≤ n) : writhe (revD d (upTo n)) = writhe d := by
  have := writhe_map (f := revCr (compOf d) (upTo n)) (d := d) 1 fun x hx => by
    obtain ⟨c, hc, rfl⟩ := mem_at hx
    rw [rev_all_sgn hs hn hc]; omega
  rw [revD, this]; omega
theorem linkBad_of {d d' : Dia} {i j : Int} (hc : compCount d' = compCount d) (hl : d'.loops = d.loops) (h : ¬ LinkBad d i j) : ¬ LinkBad d' i j := by
  unfold LinkBad at *; rw [hc, hl]; exact h
theorem linkR_of {d : Dia} {i j : Int} (h : ¬ LinkBad d i j) : linkR d i j = (linkSum d i j).tdiv 2 := if_neg h
theorem linkE_of {d : Dia} {i j : Int} (h : ¬ LinkBad d i j) : linkE d i j = 0 := if_neg h
theorem linkR_neg {d d' : Dia} {i j : Int} (h : ¬ LinkBad d i j) (h' : ¬ LinkBad d' i j) (e : linkSum d' i j = -linkSum d i j) : linkR d' i j = -linkR d i j := by
  rw [linkR_of h, linkR_of h', e, Int.neg_tdiv]
theorem linkR_same {d d' : Dia} {i j : Int} (h : ¬ LinkBad d i j) (h' : ¬ LinkBad d' i j) (e : linkSum d' i j = linkSum d i j) : linkR d' i j = linkR d i j := by
  rw [linkR_of h, linkR_of h', e]
theorem link_two {d : Dia} (hs : SoundP d) (hp : PlanarP d) {i j : Int} (h : ¬ LinkBad d i j) : 2 * linkR d i j = linkSum d i j := by
  obtain ⟨k, hk⟩ := link_even hs hp (i := i) (j := j) fun e => h (.inr (.inr (.inr (.inr e))))
  rw [linkR_of h, hk, Int.mul_tdiv_cancel_left _ (by omega)]
theorem linkR_bound {d : Dia} (hs : SoundP d) (i j : Int) : -200 ≤ linkR d i j ∧ linkR d i j ≤ 200 := by
  have h200 := hs.1
  have hb := linkTo_bound (of := compOf d) (i := i) (j := j) (fun x hx => hs.sgn_mem hx) d.cross.length
  unfold linkR
  split
  · omega
  · exact tdiv2_bound (by unfold linkSum; omega) (by unfold linkSum; omega) (by omega)
theorem writhe_bound {d : Dia} (hs : SoundP d) : -200 ≤ writhe d ∧ writhe d ≤ 200 := by
  have h200 := hs.1
  have := writheTo_bound (d := d) (fun x hx => hs.sgn_mem hx) d.cross.length
  unfold writhe; omega
end Go.V
/- Plain laws, part w: regions and components as classes; the union of two diagrams. -/
namespace Go.V
open Go
theorem cntReg_eq {d : Dia} (hs : SoundP d) (c0 : Nat) : cntReg d c0 = ncl (OrbF (stepQ d)) (inP d c0) (4 * d.cross.length) := by
  refine Nat.le_antisymm (cntReg_ncl hs c0) (inj_len (fun b r => b ∈ r) _ _ (fun b hb => ?_) ?_)
  · obtain ⟨hb, hr⟩ := List.mem_filter.1 hb
    have hb := List.mem_range.1 hb
    have hp := (repB_iff.1 hr).1
    obtain ⟨r, hr2, hin⟩ := List.mem_flatten.1 ((regOk hs _ (Nat.le_refl _)).all b hb)
    obtain ⟨q, hq, rfl⟩ := regsOf_mem hr2
    refine ⟨_, List.mem_filter.2 ⟨hr2, ?_⟩, hin⟩
    rw [(regionOf_head (by omega)).1, connB_iff]
    have ho : Orb d q b := (mem_region hs hq).1 hin
    exact hp.2.trans ((hs.orb_conn hq ho).symm hs (by omega))
  · refine List.Pairwise.imp_of_mem ?_ (List.Pairwise.filter _ List.pairwise_lt_range)
    intro b b' hb hb' hlt r hr h1 h2
    have hb := (repB_iff.1 (List.mem_filter.1 hb).2)
    have hb' := (repB_iff.1 (List.mem_filter.1 hb').2)
    obtain ⟨q, hq, rfl⟩ := regsOf_mem (List.mem_filter.1 hr).1
    have o1 : Orb d q b := (mem_region hs hq).1 h1
    have o2 : Orb d q b' := (mem_region hs hq).1 h2
    exact hb'.2 b hlt hb.1 ((hs.orb_symm hq o1).trans o2)
theorem compTo_seen {nx : Nat → Nat} {N : Nat} (hlt : ∀ a, a < N → nx a < N) (hinj : ∀ a b, a < N → b < N → nx a = nx b → a = b) : ∀ a, a ≤ N → ∀ i, i < N → (0 ≤ (compTo nx N a).1.getD i 0 ↔ ∃ y, y < a ∧ OrbF nx y i) := by
  intro a
  induction a with
  | zero =>
    intro _ i hi
    constructor
    · intro h; simp [compTo, List.getD_eq_getElem?_getD, hi] at h
    · rintro ⟨y, hy, _⟩; omega
  | succ a ih =>
    intro ha i hi
    have ih := ih (by omega)
    rw [compTo_succ, compStep]
    split
    · rename_i h0
      rw [ih i hi]
      obtain ⟨y, hy, ho⟩ := (ih a (by omega)).1 h0
      constructor
      · rintro ⟨x, hx, h⟩; exact ⟨x, by omega, h⟩
      · rintro ⟨x, hx, h⟩
        rcases Nat.lt_or_ge x a with h1 | h1
        · exact ⟨x, h1, h⟩
        · obtain rfl : x = a := by omega
          exact ⟨y, hy, orb_trans ho h⟩
    · rename_i hn
      have hneg : ∀ m, (compTo nx N a).1.getD (iter nx m a) 0 < 0 := fun m => by rw [compTo_orb hlt hinj a (by omega) a m (by omega)]; omega
      have k1 := compTo_mark hlt (show a < N by omega) (k := ((compTo nx N a).2 : Int)) (by omega) (compTo_len _ _ _) hneg hi
      by_cases hx : ∃ m, i = iter nx m a
      · rw [k1.1 hx]
        exact ⟨fun _ => ⟨a, by omega, hx⟩, fun _ => by omega⟩
      · rw [k1.2 hx, ih i hi]
        constructor
        · rintro ⟨x, hx, h⟩; exact ⟨x, by omega, h⟩
        · rintro ⟨x, hx2, h⟩
          rcases Nat.lt_or_ge x a with h1 | h1
          · exact ⟨x, h1, h⟩
          · obtain rfl : x = a := by omega
            exact absurd h hx
theorem compTo_cnt {nx : Nat → Nat} {N : Nat} (hlt : ∀ a, a < N → nx a < N) (hinj : ∀ a b, a < N → b < N → nx a = nx b → a = b) : ∀ a, a ≤ N → (compTo nx N a).2 = ncl (OrbF nx) (· < N) a := by
  intro a
  induction a with
  | zero => intro _; rfl
  | succ a ih =>
    intro ha
    have hseen := compTo_seen hlt hinj a (by omega) a (by omega)
    rw [compTo_succ, compStep, ncl, List.range_succ, List.filter_append, List.length_append]
    split
    · rename_i h0
      obtain ⟨y, hy, ho⟩ := hseen.1 h0
      have : repB (OrbF nx) (· < N) a = false := by
        cases hr : repB (OrbF nx) (· < N) a with
        | false => rfl
        | true => exact absurd ho ((repB_iff.1 hr).2 y hy (by omega))
      rw [ih (by omega), ncl]; simp [this]
    · rename_i hn
      have : repB (OrbF nx) (· < N) a = true := repB_iff.2 ⟨by omega, fun y hy _ ho => hn (hseen.2 ⟨y, hy, ho⟩)⟩
      show (compTo nx N a).2 + 1 = _
      rw [ih (by omega), ncl]; simp [this]
theorem compCount_eq {d : Dia} (hs : SoundP d) : compCount d = ncl (OrbF (nextN d)) (· < 2 * d.cross.length) (2 * d.cross.length) := compTo_cnt (fun a ha => hs.next_lt a ha) (fun a b ha hb => hs.next_inj a b ha hb) _ (Nat.le_refl _)
theorem next_perm {d : Dia} (hs : SoundP d) : Perm (nextN d) (· < 2 * d.cross.length) (2 * d.cross.length) := ⟨fun _ h => h, fun a ha => hs.next_lt a ha, fun a b ha hb => hs.next_inj a b ha hb⟩
theorem SoundP.other_eq {d : Dia} (h : SoundP d) {q q' : Nat} (hq : q < 4 * d.cross.length) (hq' : q' < 4 * d.cross.length) (ha : V.arcQ d q' = V.arcQ d q) (hi : innQ d q' = !innQ d q) : otherQ d q = q' :=
  h.place_unique (h.other_lt hq) hq' (by rw [h.other_arc hq, ha]) (by rw [h.other_inn hq, hi])
/-! ### The union -/
def shCr (k : Int) (x : Cr) : Cr := ⟨x.a0 + k, x.a1 + k, x.a2 + k, x.a3 + k, x.s⟩
def uniD (a b : Dia) : Dia := ⟨a.cross ++ b.cross.map (shCr (2 * a.cross.length)), a.loops + b.loops⟩
theorem uniD_len (a b : Dia) : (uniD a b).cross.length = a.cross.length + b.cross.length := by simp [uniD]
theorem uni_lo {a b : Dia} {c : Nat} (hc : c < a.cross.length) : crAt (uniD a b) c = crAt a c := by
  apply crAt_eq
  show (a.cross ++ _)[c]? = _
  rw [List.getElem?_append_left hc, crAt_get hc]
theorem uni_hi {a b : Dia} {c : Nat} (hc : c < b.cross.length) : crAt (uniD a b) (a.cross.length + c) = shCr (2 * a.cross.length) (crAt b c) := by
  apply crAt_eq
  show (a.cross ++ _)[_]? = _
  rw [List.getElem?_append_right (by omega), Nat.add_sub_cancel_left, List.getElem?_map, crAt_get hc]; rfl
theorem shCr_arc (k : Int) (x : Cr) {p : Nat} (hp : p < 4) : (shCr k x).arc p = x.arc p + k := by
  match p, hp with
  | 0, _ => rfl
  | 1, _ => rfl
  | 2, _ => rfl
  | 3, _ => rfl
theorem shCr_inn (k : Int) (x : Cr) (p : Nat) : (shCr k x).inn p = x.inn p := rfl
theorem uni_arc_lo {a b : Dia} {q : Nat} (hq : q < 4 * a.cross.length) : arcQ (uniD a b) q = arcQ a q := by rw [arcQ, uni_lo (by omega), arcQ]
theorem uni_inn_lo {a b : Dia} {q : Nat} (hq : q < 4 * a.cross.length) : innQ (uniD a b) q = innQ a q := by rw [innQ, uni_lo (by omega), innQ]
theorem uni_arc_hi {a b : Dia} {q : Nat} (hq : q < 4 * b.cross.length) : arcQ (uniD a b) (4 * a.cross.length + q) = arcQ b q + 2 * a.cross.length := by
  rw [arcQ, show (4 * a.cross.length + q) / 4 = a.cross.length + q / 4 by omega, show (4 * a.cross.length + q) % 4 = q % 4 by omega, uni_hi (by omega), shCr_arc _ _ (by omega), arcQ]
theorem uni_inn_hi {a b : Dia} {q : Nat} (hq : q < 4 * b.cross.length) : innQ (uniD a b) (4 * a.cross.length + q) = innQ b q := by
  rw [innQ, show (4 * a.cross.length + q) / 4 = a.cross.length + q / 4 by omega, show (4 * a.cross.length + q) % 4 = q % 4 by omega, uni_hi (by omega), shCr_inn, innQ]
structure Both (a b : Dia) : Prop where
  sa : SoundP a
  sb : SoundP b
  len : a.cross.length + b.cross.length ≤ 200
  lps : a.loops + b.loops ≤ 200
theorem uni_sound {a b : Dia} (h : Both a b) : SoundP (uniD a b) := by
  obtain ⟨ha, hb, hl, hlo⟩ := h
  have l0 := ha.2.1
  have l1 := hb.2.1
  have hlen := uniD_len a b
  refine ⟨by omega, by show 0 ≤ a.loops + b.loops; omega, hlo, fun x hx => ?_, fun n hn => ?_⟩
  · rw [hlen]
    rcases List.mem_append.1 hx with h | h
    · obtain ⟨h1, h2⟩ := ha.2.2.2.1 x h
      exact ⟨h1, fun p hp => by have := h2 p hp; omega⟩
    · obtain ⟨y, hy, rfl⟩ := List.mem_map.1 h
      obtain ⟨h1, h2⟩ := hb.2.2.2.1 y hy
      exact ⟨h1, fun p hp => by have := h2 p hp; rw [shCr_arc _ _ hp]; omega⟩
  · rw [hlen] at hn ⊢
    have key : ∀ inn : Bool, cnt (uniD a b) (n : Int) inn (4 * (a.cross.length + b.cross.length)) = 1 := fun inn => by
      rcases Nat.lt_or_ge n (2 * a.cross.length) with h1 | h1
      · obtain ⟨q, lq, aq, iq⟩ := ha.in_at h1 inn
        refine cnt_one (q := q) (by omega) ((matchAt_iff (by omega)).2 ⟨by rw [uni_arc_lo lq, aq], by rw [uni_inn_lo lq, iq]⟩) (fun q' hq' hm => ?_)
        obtain ⟨ma, mi⟩ := (matchAt_iff (by omega)).1 hm
        rcases Nat.lt_or_ge q' (4 * a.cross.length) with h2 | h2
        · rw [uni_arc_lo h2] at ma
          rw [uni_inn_lo h2] at mi
          exact ha.place_unique h2 lq (ma.trans aq.symm) (mi.trans iq.symm)
        · obtain ⟨r, rfl⟩ : ∃ r, q' = 4 * a.cross.length + r := ⟨q' - 4 * a.cross.length, by omega⟩
          have lr : r < 4 * b.cross.length := by omega
          rw [uni_arc_hi lr] at ma
          have := hb.arcQ lr
          omega
      · obtain ⟨q, lq, aq, iq⟩ := hb.in_at (a := n - 2 * a.cross.length) (by omega) inn
        refine cnt_one (q := 4 * a.cross.length + q) (by omega) ((matchAt_iff (by omega)).2 ⟨by rw [uni_arc_hi lq, aq]; omega, by rw [uni_inn_hi lq, iq]⟩) (fun q' hq' hm => ?_)
        obtain ⟨ma, mi⟩ := (matchAt_iff (by omega)).1 hm
        rcases Nat.lt_or_ge q' (4 * a.cross.length) with h2 | h2
        · rw [uni_arc_lo h2] at ma
          have := ha.arcQ h2
          omega
        · obtain ⟨r, rfl⟩ : ∃ r, q' = 4 * a.cross.length + r := ⟨q' - 4 * a.cross.length, by omega⟩
          have lr : r < 4 * b.cross.length := by omega
          rw [uni_arc_hi lr] at ma
          rw [uni_inn_hi lr] at mi
          rw [hb.place_unique lr lq (by omega) (mi.trans iq.symm)]
    exact ⟨key false, key true⟩
theorem uni_other_lo {a b : Dia} (h : Both a b) {q : Nat} (hq : q < 4 * a.cross.length) : otherQ (uniD a b) q = otherQ a q := by
  have hl := uniD_len a b
  have ho := h.sa.other_lt hq
  exact (uni_sound h).other_eq (by omega) (by omega) (by rw [uni_arc_lo ho, uni_arc_lo hq, h.sa.other_arc hq]) (by rw [uni_inn_lo ho, uni_inn_lo hq, h.sa.other_inn hq])
theorem uni_other_hi {a b : Dia} (h : Both a b) {q : Nat} (hq : q < 4 * b.cross.length) : otherQ (uniD a b) (4 * a.cross.length + q) = 4 * a.cross.length + otherQ b q := by
  have hl := uniD_len a b
  have ho := h.sb.other_lt hq
  exact (uni_sound h).other_eq (by omega) (by omega) (by rw [uni_arc_hi ho, uni_arc_hi hq, h.sb.other_arc hq]) (by rw [uni_inn_hi ho, uni_inn_hi hq, h.sb.other_inn hq])
theorem uni_step_lo {a b : Dia} (h : Both a b) {q : Nat} (hq : q < 4 * a.cross.length) : stepQ (uniD a b) q = stepQ a q := by rw [step_rot, uni_other_lo h hq, step_rot]
theorem rotQ_add (k n q : Nat) : rotQ k (4 * n + q) = 4 * n + rotQ k q := by simp only [rotQ]; omega
theorem uni_step_hi {a b : Dia} (h : Both a b) {q : Nat} (hq : q < 4 * b.cross.length) : stepQ (uniD a b) (4 * a.cross.length + q) = 4 * a.cross.length + stepQ b q := by rw [step_rot, uni_other_hi h hq, rotQ_add, step_rot]
theorem uni_next_lo {a b : Dia} (h : Both a b) {n : Nat} (hn : n < 2 * a.cross.length) : nextN (uniD a b) n = nextN a n := by
  have hl := uniD_len a b
  obtain ⟨q, lq, aq, iq⟩ := h.sa.in_at hn true
  have e1 := h.sa.nextN_at lq iq
  have e2 := (uni_sound h).nextN_at (q := q) (by omega) (by rw [uni_inn_lo lq, iq])
  rw [uni_arc_lo lq, uni_arc_lo (rotQ_lt lq), aq] at e2
  rw [aq] at e1
  exact e2.trans e1.symm
theorem uni_next_hi {a b : Dia} (h : Both a b) {n : Nat} (hn : n < 2 * b.cross.length) : nextN (uniD a b) (2 * a.cross.length + n) = 2 * a.cross.length + nextN b n := by
  have hl := uniD_len a b
  obtain ⟨q, lq, aq, iq⟩ := h.sb.in_at hn true
  have e1 := h.sb.nextN_at lq iq
  have e2 := (uni_sound h).nextN_at (q := 4 * a.cross.length + q) (by omega) (by rw [uni_inn_hi lq, iq])
  have b1 := h.sb.arcQ (rotQ_lt (k := 2) lq)
  rw [rotQ_add, uni_arc_hi lq, uni_arc_hi (rotQ_lt lq), aq] at e2
  rw [aq] at e1
  rw [show ((n : Int) + 2 * a.cross.length).toNat = 2 * a.cross.length + n by omega] at e2
  rw [e2]
  have : nextN b n = (arcQ b (rotQ 2 q)).toNat := e1
  omega
/-- Classes moved by k. -/
theorem ncl_shift {R R' : Nat → Nat → Prop} {P P' : Nat → Prop} {N N' k : Nat} (e : Eqv R P) (e' : Eqv R' P') (hN : ∀ x, P x → x < N) (hN' : ∀ x, P' x → x < N') (hP : ∀ x, P' x ↔ ∃ y, P y ∧ x = k + y) (hR : ∀ x y, P x → P y → (R x y ↔ R' (k + x) (k + y))) : ncl R' P' N' = ncl R P N := by
  refine Nat.le_antisymm (ncl_le_of e (fun x' x => x' = k + x) (fun x' _ px' => ?_) ?_) (ncl_le_of e' (fun x x' => x' = k + x) (fun x _ px => ?_) ?_)
  · obtain ⟨y, py, rfl⟩ := (hP x').1 px'
    exact ⟨y, hN y py, py, rfl⟩
  · rintro _ _ x y _ _ px py rfl rfl hr
    exact (hR x y px py).1 hr
  · have : P' (k + x) := (hP _).2 ⟨x, px, rfl⟩
    exact ⟨k + x, hN' _ this, this, rfl⟩
  · rintro x y _ _ px py _ _ rfl rfl hr
    exact (hR x y px py).2 hr
theorem orb_lo {f g : Nat → Nat} {P : Nat → Prop} {N : Nat} (hp : Perm f P N) (h : ∀ x, P x → g x = f x) {x y : Nat} (hx : P x) : OrbF f x y ↔ OrbF g x y := orbF_congr hp (fun x hx => (h x hx).symm) hx
theorem orb_hi {f g : Nat → Nat} {P : Nat → Prop} {N k : Nat} (hp : Perm f P N) (h : ∀ x, P x → g (k + x) = k + f x) {x y : Nat} (hx : P x) : OrbF f x y ↔ OrbF g (k + x) (k + y) := by
  have key : ∀ m, iter g m (k + x) = k + iter f m x := fun m => by
    induction m with
    | zero => rfl
    | succ m ih => rw [iter_succ, iter_succ, ih, h _ (hp.iter hx m)]
  exact ⟨fun ⟨m, hm⟩ => ⟨m, by rw [key, hm]⟩, fun ⟨m, hm⟩ => ⟨m, by rw [key] at hm; omega⟩⟩
theorem uni_count {a b : Dia} (h : Both a b) : compCount (uniD a b) = compCount a + compCount b := by
  have hl := uniD_len a b
  have hu := uni_sound h
  have pu := next_perm hu
  have pa := next_perm h.sa
  have pb := next_perm h.sb
  have stay : ∀ k x, x < 2 * a.cross.length → iter (nextN (uniD a b)) k x < 2 * a.cross.length := fun k x hx => iter_lt (fun y hy => by rw [uni_next_lo h hy]; exact h.sa.next_lt y hy) k x hx
  rw [compCount_eq hu, compCount_eq h.sa, compCount_eq h.sb, ncl_split (fun x => x < 2 * a.cross.length) (fun x y hx hy o => ⟨fun hq => by obtain ⟨k, rfl⟩ := o; exact stay k x hq, fun hq => by obtain ⟨k, rfl⟩ := pu.orb_symm hx o; exact stay k y hq⟩)]
  congr 1
  · refine ncl_shift (k := 0) pa.eqv (pu.eqv.sub fun x h => h.1) (fun x h => h) (fun x h => h.1) (fun x => ⟨fun h => ⟨x, h.2, by omega⟩, fun ⟨y, hy, e⟩ => ⟨by omega, by omega⟩⟩) fun x y hx _ => ?_
    rw [Nat.zero_add, Nat.zero_add]
    exact orb_lo pa (fun z hz => uni_next_lo h hz) hx
  · refine ncl_shift (k := 2 * a.cross.length) pb.eqv (pu.eqv.sub fun x h => h.1) (fun x h => h) (fun x h => h.1) (fun x => ⟨fun h => ⟨x - 2 * a.cross.length, by omega, by omega⟩, fun ⟨y, hy, e⟩ => ⟨by omega, by omega⟩⟩) fun x y hx _ => ?_
    exact orb_hi pb (fun z hz => uni_next_hi h hz) hx
theorem uni_writhe (a b : Dia) : writhe (uniD a b) = writhe a + writhe b := by
  simp only [writhe, writheTo, List.take_length]
  show ((a.cross ++ b.cross.map _).map Cr.s).sum = _
  rw [List.map_append, List.sum_append, List.map_map]; rfl
/-! ### Pieces of the union -/
theorem uni_conn_lo {a b : Dia} (h : Both a b) {x y : Nat} (hx : x < a.cross.length) : Conn (uniD a b) x y ↔ Conn a x y := by
  constructor
  · intro k
    suffices y < a.cross.length ∧ Conn a x y from this.2
    induction k with
    | refl => exact ⟨hx, .refl⟩
    | @step c p _ hp ih =>
      have ho := h.sa.other_lt (q := 4 * c + p) (by omega)
      rw [uni_other_lo h (by omega)]
      exact ⟨by omega, ih.2.step hp⟩
  · intro k
    suffices y < a.cross.length ∧ Conn (uniD a b) x y from this.2
    induction k with
    | refl => exact ⟨hx, .refl⟩
    | @step c p _ hp ih =>
      have ho := h.sa.other_lt (q := 4 * c + p) (by omega)
      have := ih.2.step hp
      rw [uni_other_lo h (by omega)] at this
      exact ⟨by omega, this⟩
theorem uni_conn_hi {a b : Dia} (h : Both a b) {x y : Nat} (hx : x < b.cross.length) : Conn (uniD a b) (a.cross.length + x) (a.cross.length + y) ↔ Conn b x y := by
  have one : ∀ c p, c < b.cross.length → p < 4 → otherQ (uniD a b) (4 * (a.cross.length + c) + p) / 4 = a.cross.length + otherQ b (4 * c + p) / 4 := fun c p hc hp => by
    rw [show 4 * (a.cross.length + c) + p = 4 * a.cross.length + (4 * c + p) by omega, uni_other_hi h (by omega)]; omega
  constructor
  · intro k
    suffices ∀ z, Conn (uniD a b) (a.cross.length + x) z → ∃ y, y < b.cross.length ∧ z = a.cross.length + y ∧ Conn b x y by
      obtain ⟨y', _, e, hc⟩ := this _ k
      obtain rfl : y = y' := by omega
      exact hc
    intro z k
    induction k with
    | refl => exact ⟨x, hx, rfl, .refl⟩
    | @step c p _ hp ih =>
      obtain ⟨y', hy', rfl, hc⟩ := ih
      have ho := h.sb.other_lt (q := 4 * y' + p) (by omega)
      exact ⟨otherQ b (4 * y' + p) / 4, by omega, one y' p hy' hp, hc.step hp⟩
  · intro k
    suffices y < b.cross.length ∧ Conn (uniD a b) (a.cross.length + x) (a.cross.length + y) from this.2
    induction k with
    | refl => exact ⟨hx, .refl⟩
    | @step c p _ hp ih =>
      have ho := h.sb.other_lt (q := 4 * c + p) (by omega)
      have := ih.2.step hp
      rw [one c p ih.1 hp] at this
      exact ⟨by omega, this⟩
theorem uni_apart {a b : Dia} (h : Both a b) {x y : Nat} (hx : x < a.cross.length) (k : Conn (uniD a b) x y) : y < a.cross.length := by
  induction k with
  | refl => exact hx
  | @step c p _ hp ih =>
    have ho := h.sa.other_lt (q := 4 * c + p) (by omega)
    rw [uni_other_lo h (by omega)]; omega
theorem uni_planar {a b : Dia} (h : Both a b) (hpa : PlanarP a) (hpb : PlanarP b) : PlanarP (uniD a b) := fun c hc => by
  have hl := uniD_len a b
  have hu := uni_sound h
  rw [cntReg_eq hu]
  rcases Nat.lt_or_ge c a.cross.length with h1 | h1
  · have e1 : ncl (OrbF (stepQ (uniD a b))) (inP (uniD a b) c) (4 * (uniD a b).cross.length) = ncl (OrbF (stepQ a)) (inP a c) (4 * a.cross.length) := by
      refine ncl_shift (k := 0) (step_perm h.sa c).eqv (step_perm hu c).eqv (fun x h => h.1) (fun x h => h.1) (fun x => ⟨fun hx => ⟨x, ?_, by omega⟩, fun ⟨y, hy, e⟩ => ?_⟩) fun x y hx _ => ?_
      · have := uni_apart h h1 hx.2
        exact ⟨by omega, (uni_conn_lo h h1).1 hx.2⟩
      · obtain rfl : x = y := by omega
        exact ⟨by have := hy.1; omega, (uni_conn_lo h h1).2 hy.2⟩
      · rw [Nat.zero_add, Nat.zero_add]
        exact orb_lo (step_perm h.sa c) (fun z hz => uni_step_lo h hz.1) hx
    have e2 : pieceOf (uniD a b) c = pieceOf a c := by
      rw [pieceOf, pieceOf, hl, List.range_add, List.filter_append]
      have f1 : ((List.range b.cross.length).map (a.cross.length + ·)).filter (connB (uniD a b) c) = [] := by
        rw [List.filter_eq_nil_iff]
        intro x hx hk
        obtain ⟨y, _, rfl⟩ := List.mem_map.1 hx
        have := uni_apart h h1 (connB_iff.1 hk)
        omega
      rw [f1, List.append_nil]
      refine List.filter_congr fun x _ => ?_
      rw [Bool.eq_iff_iff, connB_iff, connB_iff]; exact uni_conn_lo h h1
    rw [e1, ← cntReg_eq h.sa, e2]; exact hpa c h1
  · obtain ⟨c, rfl⟩ : ∃ x, c = a.cross.length + x := ⟨c - a.cross.length, by omega⟩
    have hc : c < b.cross.length := by omega
    have stay : ∀ y, Conn (uniD a b) (a.cross.length + c) y → a.cross.length ≤ y := fun y k => by
      rcases Nat.lt_or_ge y a.cross.length with h2 | h2
      · have := uni_apart h h2 (k.symm hu (by omega)); omega
      · exact h2
    have e1 : ncl (OrbF (stepQ (uniD a b))) (inP (uniD a b) (a.cross.length + c)) (4 * (uniD a b).cross.length) = ncl (OrbF (stepQ b)) (inP b c) (4 * b.cross.length) := by
      refine ncl_shift (k := 4 * a.cross.length) (step_perm h.sb c).eqv (step_perm hu _).eqv (fun x h => h.1) (fun x h => h.1) (fun x => ⟨fun hx => ?_, fun ⟨y, hy, e⟩ => ?_⟩) fun x y hx _ => orb_hi (step_perm h.sb c) (fun z hz => uni_step_hi h hz.1) hx
      · have h2 := stay _ hx.2
        have h3 := hx.1
        refine ⟨x - 4 * a.cross.length, ⟨by omega, (uni_conn_hi h hc).1 ?_⟩, by omega⟩
        rw [show a.cross.length + (x - 4 * a.cross.length) / 4 = x / 4 by omega]; exact hx.2
      · subst e
        exact ⟨by have := hy.1; omega, by rw [show (4 * a.cross.length + y) / 4 = a.cross.length + y / 4 by omega]; exact (uni_conn_hi h hc).2 hy.2⟩
    have e2 : (pieceOf (uniD a b) (a.cross.length + c)).length = (pieceOf b c).length := by
      rw [pieceOf, pieceOf, hl, List.range_add, List.filter_append, List.length_append]
      have f1 : (List.range a.cross.length).filter (connB (uniD a b) (a.cross.length + c)) = [] := by
        rw [List.filter_eq_nil_iff]
        intro x hx hk
        have := stay x (connB_iff.1 hk)
        have := List.mem_range.1 hx
        omega
      rw [f1, List.filter_map, List.length_map, List.length_nil, Nat.zero_add]
      refine congrArg List.length (List.filter_congr fun x _ => ?_)
      rw [Bool.eq_iff_iff, connB_iff]
      show connB (uniD a b) (a.cross.length + c) (a.cross.length + x) = true ↔ _
      rw [connB_iff]; exact uni_conn_hi h hc
    rw [e1, ← cntReg_eq h.sb, e2]; exact hpb c hc
end Go.V
/- Plain laws, part x: two arcs of two pieces are spliced: the result is valid, and has one component less. -/
namespace Go.V
open Go
/-- The arcs at two places are exchanged; an arc goes in at each; they lie in two pieces. -/
structure Splice (u s : Dia) (x y : Nat) : Prop where
  su : SoundP u
  len : s.cross.length = u.cross.length
  lps : s.loops = u.loops
  sgn : ∀ z ∈ s.cross, z.s = 1 ∨ z.s = -1
  lx : x < 4 * u.cross.length
  ly : y < 4 * u.cross.length
  ix : innQ u x = true
  iy : innQ u y = true
  arc : ∀ q, q < 4 * u.cross.length → arcQ s q = arcQ u (swp x y q)
  inn : ∀ q, q < 4 * u.cross.length → innQ s q = innQ u q
  apart : ¬ Conn u (x / 4) (y / 4)
namespace Splice
variable {u s : Dia} {x y : Nat}
theorem swp_lt (h : Splice u s x y) {q : Nat} (hq : q < 4 * u.cross.length) : swp x y q < 4 * u.cross.length := by
  simp only [swp]; split
  · exact h.ly
  · split
    · exact h.lx
    · exact hq
theorem swp_inn (h : Splice u s x y) (q : Nat) : innQ u (swp x y q) = innQ u q := by
  by_cases h1 : q = x
  · subst h1; rw [swp_a, h.ix, h.iy]
  · by_cases h2 : q = y
    · subst h2; rw [swp_b, h.ix, h.iy]
    · rw [swp_o h1 h2]
theorem sound (h : Splice u s x y) : SoundP s := by
  have hl := h.len
  have hu := h.su
  refine ⟨by rw [hl]; exact hu.1, by rw [h.lps]; exact hu.2.1, by rw [h.lps]; exact hu.2.2.1, fun z hz => ⟨h.sgn z hz, fun p hp => ?_⟩, fun a ha => ?_⟩
  · obtain ⟨c, hcx⟩ := List.getElem?_of_mem hz
    have hc := (List.getElem?_eq_some_iff.1 hcx).1
    have hq : 4 * c + p < 4 * u.cross.length := by omega
    have e := h.arc _ hq
    rw [arcQ, show (4 * c + p) / 4 = c by omega, show (4 * c + p) % 4 = p by omega, crAt_eq hcx] at e
    rw [e, hl]
    exact hu.arcQ (h.swp_lt hq)
  · rw [hl] at ha ⊢
    have key : ∀ inn : Bool, cnt s (a : Int) inn (4 * u.cross.length) = 1 := fun inn => by
      obtain ⟨q, lq, aq, iq⟩ := hu.in_at ha inn
      have ls := h.swp_lt lq
      refine cnt_one (q := swp x y q) ls ((matchAt_iff (by omega)).2 ⟨?_, ?_⟩) (fun q' hq' hm => ?_)
      · rw [h.arc _ ls, swp_swp, aq]
      · rw [h.inn _ ls, h.swp_inn, iq]
      · obtain ⟨ma, mi⟩ := (matchAt_iff (by omega)).1 hm
        rw [h.arc q' hq'] at ma
        rw [h.inn q' hq', ← h.swp_inn] at mi
        have := hu.place_unique (h.swp_lt hq') lq (ma.trans aq.symm) (mi.trans iq.symm)
        rw [← this, swp_swp]
    exact ⟨key false, key true⟩
theorem other (h : Splice u s x y) {q : Nat} (hq : q < 4 * u.cross.length) : otherQ s q = swp x y (otherQ u (swp x y q)) := by
  have hl := h.len
  have l1 := h.swp_lt hq
  have l2 := h.su.other_lt l1
  have l3 := h.swp_lt l2
  refine h.sound.other_eq (by omega) (by omega) ?_ ?_
  · rw [h.arc _ l3, swp_swp, h.su.other_arc l1, h.arc q hq]
  · rw [h.inn _ l3, h.swp_inn, h.su.other_inn l1, h.swp_inn, h.inn q hq]
theorem swp_other (h : Splice u s x y) {z : Nat} (hz : z < 4 * u.cross.length) : swp x y (otherQ u z) = otherQ u (swp (otherQ u x) (otherQ u y) z) := by
  have hu := h.su
  by_cases h1 : z = otherQ u x
  · subst h1; rw [swp_a, hu.other_other h.lx, hu.other_other h.ly, swp_a]
  · by_cases h2 : z = otherQ u y
    · subst h2; rw [swp_b, hu.other_other h.lx, hu.other_other h.ly, swp_b]
    · rw [swp_o h1 h2, swp_o]
      · intro e; exact h1 (by rw [← e, hu.other_other hz])
      · intro e; exact h2 (by rw [← e, hu.other_other hz])
theorem step (h : Splice u s x y) {q : Nat} (hq : q < 4 * u.cross.length) : stepQ s q = stepQ u (swp (otherQ u x) (otherQ u y) (swp x y q)) := by
  rw [step_rot, h.other hq, h.swp_other (h.swp_lt hq), step_rot]
theorem next (h : Splice u s x y) {n : Nat} (hn : n < 2 * u.cross.length) : nextN s n = nextN u (swp (arcQ u x).toNat (arcQ u y).toNat n) := by
  have hl := h.len
  have hu := h.su
  have bx := hu.arcQ h.lx
  have by' := hu.arcQ h.ly
  obtain ⟨q, lq, aq, iq⟩ := hu.in_at hn true
  have ls := h.swp_lt lq
  have i2 : innQ u (swp x y q) = true := by rw [h.swp_inn, iq]
  have e1 := h.sound.nextN_at (q := swp x y q) (by omega) (by rw [h.inn _ ls, i2])
  have lr := rotQ_lt (k := 2) ls
  have ir : innQ u (rotQ 2 (swp x y q)) = false := by rw [hu.inn_rot ls, i2]; rfl
  have e2 : swp x y (rotQ 2 (swp x y q)) = rotQ 2 (swp x y q) := swp_o (fun e => by rw [e, h.ix] at ir; cases ir) (fun e => by rw [e, h.iy] at ir; cases ir)
  rw [h.arc _ ls, swp_swp, aq, h.arc _ lr, e2] at e1
  have e3 := hu.nextN_at ls i2
  have e4 : (arcQ u (swp x y q)).toNat = swp (arcQ u x).toNat (arcQ u y).toNat n := by
    by_cases h1 : q = x
    · subst h1
      rw [swp_a, show n = (arcQ u q).toNat by omega, swp_a]
    · by_cases h2 : q = y
      · subst h2
        rw [swp_b, show n = (arcQ u q).toNat by omega, swp_b]
      · rw [swp_o h1 h2, swp_o]
        · omega
        · intro e; exact h1 (hu.place_unique lq h.lx (by omega) (iq.trans h.ix.symm))
        · intro e; exact h2 (hu.place_unique lq h.ly (by omega) (iq.trans h.iy.symm))
  rw [← e4, e3]
  exact e1
end Splice
/-- Along a strand crossings are joined. -/
theorem conn_next {d : Dia} (hs : SoundP d) {p q : Nat} (hp : p < 4 * d.cross.length) (hq : q < 4 * d.cross.length) (ip : innQ d p = true) (iq : innQ d q = true) (o : OrbF (nextN d) (arcQ d p).toNat (arcQ d q).toNat) : Conn d (p / 4) (q / 4) := by
  obtain ⟨k, hk⟩ := o
  have key : ∀ k, ∃ r, r < 4 * d.cross.length ∧ innQ d r = true ∧ (arcQ d r).toNat = iter (nextN d) k (arcQ d p).toNat ∧ Conn d (p / 4) (r / 4) := fun k => by
    induction k with
    | zero => exact ⟨p, hp, ip, rfl, .refl⟩
    | succ k ih =>
      obtain ⟨r, lr, ir, ar, cr⟩ := ih
      have l2 := rotQ_lt (k := 2) lr
      have st := Conn.step (p := rotQ 2 r % 4) cr (by omega)
      rw [← rotQ_div 2 r, show 4 * (rotQ 2 r / 4) + rotQ 2 r % 4 = rotQ 2 r by omega] at st
      refine ⟨otherQ d (rotQ 2 r), hs.other_lt l2, by rw [hs.other_inn l2, hs.inn_rot lr, ir]; rfl, ?_, st⟩
      rw [hs.other_arc l2, iter_succ, ← ar, hs.nextN_at lr ir]
  obtain ⟨r, lr, ir, ar, cr⟩ := key k
  have b1 := hs.arcQ lr
  have b2 := hs.arcQ hq
  rw [hs.place_unique hq lr (by omega) (iq.trans ir.symm)]
  exact cr
theorem conn_eqv {d : Dia} (hs : SoundP d) : Eqv (Conn d) (· < d.cross.length) := ⟨fun _ _ => .refl, fun _ _ hx _ k => k.symm hs hx, fun _ _ _ _ _ _ h k => h.trans k⟩
theorem conn_other (d : Dia) (q : Nat) : Conn d (q / 4) (otherQ d q / 4) := by
  have := Conn.step (d := d) (a := q / 4) (p := q % 4) .refl (by omega)
  rwa [show 4 * (q / 4) + q % 4 = q by omega] at this
theorem orb_conn' {d : Dia} (hs : SoundP d) {q q' : Nat} (hq : q < 4 * d.cross.length) (o : OrbF (stepQ d) q q') : Conn d (q / 4) (q' / 4) := hs.orb_conn hq o
namespace Splice
variable {u s : Dia} {x y : Nat}
theorem comps (h : Splice u s x y) : OrbF (nextN s) (arcQ u x).toNat (arcQ u y).toNat ∧ compCount s + 1 = compCount u := by
  have hl := h.len
  have hu := h.su
  have bx := hu.arcQ h.lx
  have by' := hu.arcQ h.ly
  have pu := next_perm hu
  have hn : ¬ OrbF (nextN u) (arcQ u x).toNat (arcQ u y).toNat := fun o => h.apart (conn_next hu h.lx h.ly h.ix h.iy o)
  obtain ⟨h1, h2⟩ := pu.swap_lt (a := (arcQ u x).toNat) (b := (arcQ u y).toNat) (by omega) (by omega) hn
  have ps := pu.swap (a := (arcQ u x).toNat) (b := (arcQ u y).toNat) (by omega) (by omega)
  have he : ∀ n, n < 2 * u.cross.length → nextN u (swp (arcQ u x).toNat (arcQ u y).toNat n) = nextN s n := fun n hn => (h.next hn).symm
  refine ⟨(orbF_congr ps he (by omega)).1 h1, ?_⟩
  rw [compCount_eq hu, ← h2, compCount_eq h.sound, hl, ncl_orb_congr ps he]
theorem join (h : Splice u s x y) : Conn s (x / 4) (y / 4) := by
  have hl := h.len
  have lx := h.lx
  have ly := h.ly
  have o := h.comps.1
  have e1 : arcQ s y = arcQ u x := by rw [h.arc y ly, swp_b]
  have e2 : arcQ s x = arcQ u y := by rw [h.arc x lx, swp_a]
  rw [← e1, ← e2] at o
  exact (conn_next h.sound (by omega) (by omega) (by rw [h.inn y ly, h.iy]) (by rw [h.inn x lx, h.ix]) o).symm h.sound (by omega)
theorem conn (h : Splice u s x y) {a c : Nat} (ha : a < u.cross.length) (hc : c < u.cross.length) : Conn s a c ↔ glue (Conn u) (x / 4) (y / 4) a c := by
  have hl := h.len
  have lx := h.lx
  have ly := h.ly
  have hu := h.su
  have hs := h.sound
  have eu := conn_eqv hu
  have eg := eu.glue (a := x / 4) (b := y / 4) (by omega) (by omega)
  have es := conn_eqv hs
  constructor
  · intro k
    suffices c < u.cross.length ∧ glue (Conn u) (x / 4) (y / 4) a c from this.2
    have hcc := hc
    clear hcc hc
    induction k with
    | refl => exact ⟨ha, eg.refl a ha⟩
    | @step c p k hp ih =>
      obtain ⟨hcl, g⟩ := ih
      have lq : 4 * c + p < 4 * u.cross.length := by omega
      have l1 := h.swp_lt lq
      have l2 := hu.other_lt l1
      have l3 := h.swp_lt l2
      have sw : ∀ q, q < 4 * u.cross.length → glue (Conn u) (x / 4) (y / 4) (q / 4) (swp x y q / 4) := fun q hq => by
        by_cases h1 : q = x
        · subst h1; rw [swp_a]; exact .inr (.inl ⟨.refl, .refl⟩)
        · by_cases h2 : q = y
          · subst h2; rw [swp_b]; exact .inr (.inr ⟨.refl, .refl⟩)
          · rw [swp_o h1 h2]; exact eg.refl _ (by omega)
      rw [h.other lq]
      refine ⟨by omega, ?_⟩
      have g1 := sw _ lq
      rw [show (4 * c + p) / 4 = c by omega] at g1
      have g2 : glue (Conn u) (x / 4) (y / 4) (swp x y (4 * c + p) / 4) (otherQ u (swp x y (4 * c + p)) / 4) := .inl (conn_other u _)
      exact eg.trans _ _ _ ha (show _ < _ by omega) (show _ < _ by omega) (eg.trans _ _ _ ha (show _ < _ by omega) (show _ < _ by omega) (eg.trans _ _ _ ha hcl (show _ < _ by omega) g g1) g2) (sw _ l2)
  · have sub : ∀ a c, a < u.cross.length → Conn u a c → c < u.cross.length ∧ Conn s a c := fun a c ha k => by
      induction k with
      | refl => exact ⟨ha, .refl⟩
      | @step c p k hp ih =>
        obtain ⟨hcl, g⟩ := ih
        have lq : 4 * c + p < 4 * u.cross.length := by omega
        have l1 := h.swp_lt lq
        have ho := hu.other_lt lq
        have sw : ∀ q, q < 4 * u.cross.length → Conn s (q / 4) (swp x y q / 4) := fun q hq => by
          by_cases h1 : q = x
          · subst h1; rw [swp_a]; exact h.join
          · by_cases h2 : q = y
            · subst h2; rw [swp_b]; exact h.join.symm hs (by omega)
            · rw [swp_o h1 h2]; exact .refl
        have e : otherQ u (4 * c + p) = swp x y (otherQ s (swp x y (4 * c + p))) := by rw [h.other l1, swp_swp, swp_swp]
        have g1 := sw _ lq
        rw [show (4 * c + p) / 4 = c by omega] at g1
        have lo : otherQ s (swp x y (4 * c + p)) < 4 * u.cross.length := by rw [← hl]; exact hs.other_lt (by omega)
        refine ⟨by omega, ?_⟩
        rw [e]
        exact ((g.trans g1).trans (conn_other s _)).trans (sw _ lo)
    rintro (k | ⟨k1, k2⟩ | ⟨k1, k2⟩)
    · exact (sub _ _ ha k).2
    · exact ((sub _ _ ha k1).2.trans h.join).trans (sub _ _ (by omega) k2).2
    · exact ((sub _ _ ha k1).2.trans (h.join.symm hs (by omega))).trans (sub _ _ (by omega) k2).2
/-- Both sides of an arc of a planar diagram lie in two regions. -/
theorem _root_.Go.V.sides {d : Dia} (hs : SoundP d) (hp : PlanarP d) {q : Nat} (hq : q < 4 * d.cross.length) : ¬ OrbF (stepQ d) q (otherQ d q) := by
  have hz : Strands d fun r => decide ((compOf d).getD (arcQ d r).toNat 0 = (compOf d).getD (arcQ d q).toNat 0) := ⟨fun r hr => by show decide _ = decide _; rw [hs.other_arc hr], fun r hr => by show decide _ = decide _; rw [hs.comp_rot hr]⟩
  obtain ⟨col, hcol⟩ := colour hs hp hz
  rintro ⟨k, hk⟩
  have key : ∀ k, col (iter (stepQ d) k q) = col q := fun k => by
    induction k with
    | zero => rfl
    | succ k ih => rw [iter_succ, (hcol _ (iter_lt (fun x hx => hs.step_lt hx) k q hq)).1, ih]
  have h1 := (hcol q hq).2
  rw [hk, key k] at h1
  simp at h1
theorem planar (h : Splice u s x y) (hp : PlanarP u) : PlanarP s := fun c hc => by
  have hl := h.len
  have lx := h.lx
  have ly := h.ly
  have hu := h.su
  have hs := h.sound
  have eu := conn_eqv hu
  have hx4 : x / 4 < u.cross.length := by omega
  have hy4 : y / 4 < u.cross.length := by omega
  have eg := eu.glue (a := x / 4) (b := y / 4) hx4 hy4
  have hcu : c < u.cross.length := by omega
  rw [cntReg_eq hs]
  by_cases hcon : Conn s c (x / 4)
  · -- the piece that has been made of two
    have inv : ∀ z, z < u.cross.length → (Conn s c z ↔ Conn u (x / 4) z ∨ Conn u (y / 4) z) := fun z hz => by
      have e1 : Conn s c z ↔ Conn s (x / 4) z := ⟨fun k => (hcon.symm hs hc).trans k, fun k => hcon.trans k⟩
      rw [e1, h.conn hx4 hz]
      constructor
      · rintro (k | ⟨_, k⟩ | ⟨_, k⟩)
        · exact .inl k
        · exact .inr k
        · exact .inl k
      · rintro (k | k)
        · exact .inl k
        · exact .inr (.inl ⟨.refl, k⟩)
    have hP : ∀ q, inP s c q ↔ inP u (x / 4) q ∨ inP u (y / 4) q := fun q => by
      constructor
      · rintro ⟨h1, h2⟩
        rcases (inv (q / 4) (by omega)).1 h2 with k | k
        · exact .inl ⟨by omega, k⟩
        · exact .inr ⟨by omega, k⟩
      · rintro (⟨h1, h2⟩ | ⟨h1, h2⟩)
        · exact ⟨by omega, (inv (q / 4) (by omega)).2 (.inl h2)⟩
        · exact ⟨by omega, (inv (q / 4) (by omega)).2 (.inr h2)⟩
    have hap : ∀ q, inP u (x / 4) q → ¬ inP u (y / 4) q := fun q a b => h.apart (a.2.trans (b.2.symm hu hy4))
    have perm : Perm (stepQ u) (inP s c) (4 * u.cross.length) := ⟨fun q hq => by have := hq.1; omega, fun q hq => (hP _).2 ((hP q).1 hq |>.imp (fun k => k.step hu) (fun k => k.step hu)), fun p q a b e => hu.step_inj (by have := a.1; omega) (by have := b.1; omega) e⟩
    have px : inP u (x / 4) x := ⟨lx, .refl⟩
    have py : inP u (y / 4) y := ⟨ly, .refl⟩
    have pxo := px.other hu
    have pyo := py.other hu
    have far : ∀ p q, inP u (x / 4) p → inP u (y / 4) q → ¬ OrbF (stepQ u) p q := fun p q a b o => hap q ⟨b.1, a.2.trans (orb_conn' hu a.1 o)⟩ b
    obtain ⟨_, n1⟩ := perm.swap_lt ((hP _).2 (.inl pxo)) ((hP _).2 (.inr pyo)) (far _ _ pxo pyo)
    have perm1 := perm.swap ((hP _).2 (.inl pxo)) ((hP _).2 (.inr pyo))
    have hn2 : ¬ OrbF (fun q => stepQ u (swp (otherQ u x) (otherQ u y) q)) x y := fun o => by
      rcases perm.swap_glue ((hP _).2 (.inl pxo)) ((hP _).2 (.inr pyo)) ((hP _).2 (.inl px)) o with k | ⟨k, _⟩ | ⟨k, _⟩
      · exact far _ _ px py k
      · exact sides hu hp lx k
      · exact far _ _ px pyo k
    obtain ⟨_, n2⟩ := perm1.swap_lt ((hP _).2 (.inl px)) ((hP _).2 (.inr py)) hn2
    have perm2 := perm1.swap ((hP _).2 (.inl px)) ((hP _).2 (.inr py))
    have e3 : ncl (OrbF (stepQ s)) (inP s c) (4 * u.cross.length) = ncl (OrbF fun q => stepQ u (swp (otherQ u x) (otherQ u y) (swp x y q))) (inP s c) (4 * u.cross.length) := (ncl_orb_congr perm2 fun q hq => (h.step (by have := hq.1; omega)).symm).symm
    have e4 : ncl (OrbF (stepQ u)) (inP s c) (4 * u.cross.length) = cntReg u (x / 4) + cntReg u (y / 4) := by
      rw [ncl_split (fun q => inP u (x / 4) q) (fun p q a b o => ⟨fun k => ⟨by have := b.1; omega, k.2.trans (orb_conn' hu k.1 o)⟩, fun k => ⟨by have := a.1; omega, k.2.trans ((orb_conn' hu (by have := a.1; omega) o).symm hu (by have := a.1; omega))⟩⟩), cntReg_eq hu, cntReg_eq hu]
      congr 1
      · exact ncl_congr (fun q _ => ⟨fun k => k.2, fun k => ⟨(hP q).2 (.inl k), k⟩⟩) fun _ _ _ _ _ _ => Iff.rfl
      · exact ncl_congr (fun q _ => ⟨fun k => ((hP q).1 k.1).resolve_left k.2, fun k => ⟨(hP q).2 (.inr k), fun k2 => hap q k2 k⟩⟩) fun _ _ _ _ _ _ => Iff.rfl
    have e5 : (pieceOf s c).length = (pieceOf u (x / 4)).length + (pieceOf u (y / 4)).length := by
      rw [pieceOf, pieceOf, pieceOf, hl]
      refine filter_split _ _ _ _ (fun z hz => ?_) (fun z _ k => h.apart ((connB_iff.1 k.1).trans ((connB_iff.1 k.2).symm hu hy4)))
      rw [Bool.eq_iff_iff, Bool.or_eq_true, connB_iff, connB_iff, connB_iff]
      exact inv z (List.mem_range.1 hz)
    have p1 := hp _ hx4
    have p2 := hp _ hy4
    rw [hl, e3, e5]
    omega
  · -- another piece
    have ncx : ¬ Conn u c (x / 4) := fun k => hcon ((h.conn hcu hx4).2 (.inl k))
    have ncy : ¬ Conn u c (y / 4) := fun k => hcon ((h.conn hcu hx4).2 (.inr (.inr ⟨k, .refl⟩)))
    have inv : ∀ z, z < u.cross.length → (Conn s c z ↔ Conn u c z) := fun z hz => by
      rw [h.conn hcu hz]
      constructor
      · rintro (k | ⟨k, _⟩ | ⟨k, _⟩)
        · exact k
        · exact absurd k ncx
        · exact absurd k ncy
      · exact .inl
    have hP : ∀ q, inP s c q ↔ inP u c q := fun q => ⟨fun k => ⟨by have := k.1; omega, (inv _ (by have := k.1; omega)).1 k.2⟩, fun k => ⟨by have := k.1; omega, (inv _ (by have := k.1; omega)).2 k.2⟩⟩
    have pu := step_perm hu c
    have e1 : ∀ q, inP u c q → stepQ u q = stepQ s q := fun q hq => by
      have far : ∀ z, Conn u (z / 4) (x / 4) ∨ Conn u (z / 4) (y / 4) → q ≠ z := fun z k e => by
        subst e
        rcases k with k | k
        · exact ncx (hq.2.trans k)
        · exact ncy (hq.2.trans k)
      rw [h.step hq.1, swp_o (far x (.inl .refl)) (far y (.inr .refl)), swp_o (far _ (.inl ((conn_other u x).symm hu hx4))) (far _ (.inr ((conn_other u y).symm hu hy4)))]
    have e2 : ncl (OrbF (stepQ s)) (inP s c) (4 * u.cross.length) = cntReg u c := by
      rw [cntReg_eq hu, ncl_orb_congr pu e1]
      exact ncl_congr (fun q _ => hP q) fun _ _ _ _ _ _ => Iff.rfl
    have e3 : pieceOf s c = pieceOf u c := by
      rw [pieceOf, pieceOf, hl]
      refine List.filter_congr fun z hz => ?_
      rw [Bool.eq_iff_iff, connB_iff, connB_iff]
      exact inv z (List.mem_range.1 hz)
    rw [hl, e2, e3]
    exact hp c hcu
end Splice
end Go.V
/- Plain laws, part y: the connected sum of two diagrams. -/
namespace Go.V
open Go
def withL (d : Dia) (n : Int) : Dia := ⟨d.cross, n⟩
theorem relab_id {d d' : Dia} (h : d'.cross = d.cross) : Relab d d' id where
  len := by rw [h]
  cr _ _ := rfl
  inj _ _ _ _ e := e
  arc q _ := by simp only [arcQ, crAt, h]; rfl
theorem withL_sound {d : Dia} {n : Int} (h : SoundP d) (h0 : 0 ≤ n) (h1 : n ≤ 200) : SoundP (withL d n) := ⟨h.1, h0, h1, h.2.2.2⟩
theorem withL_planar {d : Dia} {n : Int} (h : SoundP d) (h' : SoundP (withL d n)) (hp : PlanarP d) : PlanarP (withL d n) := by
  have r : Relab d (withL d n) id := relab_id rfl
  have r' : Relab (withL d n) d id := relab_id rfl
  exact planar_of h h' rfl (conn_iff r r' h h') (r'.moves_rot h' h fun _ _ => rfl) (r.moves_rot h h' fun _ _ => rfl) hp
/-! ### One arc of one place is set -/
def setArc (z : Cr) (p : Nat) (v : Int) : Cr := if p = 0 then ⟨v, z.a1, z.a2, z.a3, z.s⟩ else if p = 1 then ⟨z.a0, v, z.a2, z.a3, z.s⟩ else if p = 2 then ⟨z.a0, z.a1, v, z.a3, z.s⟩ else ⟨z.a0, z.a1, z.a2, v, z.s⟩
theorem setArc_s (z : Cr) (p : Nat) (v : Int) : (setArc z p v).s = z.s := by simp only [setArc]; split; rfl; split; rfl; split <;> rfl
theorem setArc_inn (z : Cr) (p : Nat) (v : Int) (r : Nat) : (setArc z p v).inn r = z.inn r := by simp only [Cr.inn, setArc_s]
theorem setArc_arc (z : Cr) {p r : Nat} (hp : p < 4) (hr : r < 4) (v : Int) : (setArc z p v).arc r = if r = p then v else z.arc r := by
  match p, hp with
  | 0, _ => match r, hr with
    | 0, _ => rfl
    | 1, _ => rfl
    | 2, _ => rfl
    | 3, _ => rfl
  | 1, _ => match r, hr with
    | 0, _ => rfl
    | 1, _ => rfl
    | 2, _ => rfl
    | 3, _ => rfl
  | 2, _ => match r, hr with
    | 0, _ => rfl
    | 1, _ => rfl
    | 2, _ => rfl
    | 3, _ => rfl
  | 3, _ => match r, hr with
    | 0, _ => rfl
    | 1, _ => rfl
    | 2, _ => rfl
    | 3, _ => rfl
def setQ (d : Dia) (q : Nat) (v : Int) : Dia := ⟨d.cross.set (q / 4) (setArc (crAt d (q / 4)) (q % 4) v), d.loops⟩
theorem setQ_len (d : Dia) (q : Nat) (v : Int) : (setQ d q v).cross.length = d.cross.length := by simp [setQ]
theorem setQ_at {d : Dia} {q : Nat} (hq : q < 4 * d.cross.length) (v : Int) (c : Nat) : crAt (setQ d q v) c = if q / 4 = c then setArc (crAt d c) (q % 4) v else crAt d c := by
  have hl : q / 4 < d.cross.length := by omega
  show (d.cross.set (q / 4) _).getD c _ = _
  rw [List.getD_eq_getElem?_getD, List.getElem?_set]
  by_cases e : q / 4 = c
  · rw [if_pos e, if_pos hl, if_pos e, e]; rfl
  · rw [if_neg e, if_neg e, crAt, List.getD_eq_getElem?_getD]
theorem setQ_arc {d : Dia} {q r : Nat} (hq : q < 4 * d.cross.length) (v : Int) : arcQ (setQ d q v) r = if r = q then v else arcQ d r := by
  rw [arcQ, setQ_at hq]
  by_cases e : q / 4 = r / 4
  · rw [if_pos e, setArc_arc _ (by omega) (by omega), arcQ]
    by_cases k : r = q
    · subst k; rw [if_pos rfl, if_pos rfl]
    · rw [if_neg k, if_neg (by omega)]
  · rw [if_neg e, if_neg (fun k => e (by rw [k])), arcQ]
theorem setQ_inn {d : Dia} {q r : Nat} (hq : q < 4 * d.cross.length) (v : Int) : innQ (setQ d q v) r = innQ d r := by
  rw [innQ, setQ_at hq]
  split
  · rw [setArc_inn, innQ]
  · rfl
theorem setQ_sgn {d : Dia} {q : Nat} (hq : q < 4 * d.cross.length) (v : Int) (h : ∀ z ∈ d.cross, z.s = 1 ∨ z.s = -1) : ∀ z ∈ (setQ d q v).cross, z.s = 1 ∨ z.s = -1 := fun z hz => by
  rcases List.mem_or_eq_of_mem_set hz with k | k
  · exact h z k
  · rw [k, setArc_s]
    exact h _ (List.mem_of_getElem? (crAt_get (by omega)))
theorem setQ_writhe {d : Dia} {q : Nat} (hq : q < 4 * d.cross.length) (v : Int) : writhe (setQ d q v) = writhe d := by
  have hl : q / 4 < d.cross.length := by omega
  simp only [writhe, writheTo, List.take_length]
  congr 1
  refine List.ext_getElem? fun c => ?_
  show ((d.cross.set (q / 4) _).map Cr.s)[c]? = _
  rw [List.getElem?_map, List.getElem?_set, List.getElem?_map]
  by_cases e : q / 4 = c
  · subst e
    rw [if_pos rfl, if_pos hl, Option.map_some, setArc_s, crAt_get hl, Option.map_some]
  · rw [if_neg e]
theorem encCr_set (x : Cr) {p : Nat} (hp : p < 4) (v : Int) : (encCr x).set p (iv v) = encCr (setArc x p v) := by
  match p, hp with
  | 0, _ => rfl
  | 1, _ => rfl
  | 2, _ => rfl
  | 3, _ => rfl
theorem fcr_set : ∀ (l : List Cr) (c p : Nat) (x : Cr) (v : Int), l[c]? = some x → p < 4 → (l.flatMap encCr).set (c * 5 + p) (iv v) = (l.set c (setArc x p v)).flatMap encCr
  | [], c, p, x, v, h, _ => by simp at h
  | y :: l, 0, p, x, v, h, hp => by
    simp only [List.getElem?_cons_zero, Option.some.injEq] at h
    subst h
    rw [List.flatMap_cons, List.set_append_left _ _ (by rw [encCr_len]; omega), show 0 * 5 + p = p by omega, encCr_set y hp, List.set_cons_zero, List.flatMap_cons]
  | y :: l, c + 1, p, x, v, h, hp => by
    rw [List.flatMap_cons, List.set_append_right _ _ (by rw [encCr_len]; omega), encCr_len, show (c + 1) * 5 + p - 5 = c * 5 + p by omega, fcr_set l c p x v (by simpa using h) hp, List.set_cons_succ, List.flatMap_cons]
theorem setQ_flat {d : Dia} {q : Nat} (hq : q < 4 * d.cross.length) (v : Int) : (d.cross.flatMap encCr).set (q / 4 * 5 + q % 4) (iv v) = (setQ d q v).cross.flatMap encCr := fcr_set _ _ _ _ _ (crAt_get (by omega)) (by omega)
/-! ### The sum -/
def inQ (d : Dia) (a : Int) : Nat := (findEnd d a true).getD 0
theorem inQ_find {d : Dia} (h : SoundP d) {a : Int} (h0 : 0 ≤ a) (h1 : a < 2 * d.cross.length) : findEnd d a true = some (inQ d a) ∧ inQ d a < 4 * d.cross.length ∧ arcQ d (inQ d a) = a ∧ innQ d (inQ d a) = true := by
  obtain ⟨q, hq⟩ := h.find (a := a.toNat) (by omega) true
  rw [show ((a.toNat : Nat) : Int) = a by omega] at hq
  have e : inQ d a = q := by rw [inQ, hq]; rfl
  obtain ⟨l, e1, e2, _⟩ := findEnd_some hq
  rw [e]; exact ⟨hq, l, e1, e2⟩
def thereP (d : Dia) (k : Int) : Prop := 0 ≤ k ∧ k < 2 * d.cross.length ∨ k = -1 ∧ 0 < d.loops
instance (d : Dia) (k : Int) : Decidable (thereP d k) := by unfold thereP; infer_instance
def uniBad (a b : Dia) : Prop := 200 < a.cross.length + b.cross.length ∨ 200 < a.loops + b.loops
instance (a b : Dia) : Decidable (uniBad a b) := by unfold uniBad; infer_instance
def splD (a b : Dia) (i j : Int) : Dia := setQ (setQ (uniD a b) (inQ (uniD a b) i) (j + 2 * a.cross.length)) (inQ (uniD a b) (j + 2 * a.cross.length)) i
theorem Both.of {a b : Dia} (ha : SoundP a) (hb : SoundP b) (h : ¬ uniBad a b) : Both a b := ⟨ha, hb, Nat.le_of_not_lt fun k => h (.inl k), Int.not_lt.1 fun k => h (.inr k)⟩
section
variable {a b : Dia} {i j : Int}
theorem spl_places (h : Both a b) (hi : 0 ≤ i) (hi2 : i < 2 * a.cross.length) (hj : 0 ≤ j) (hj2 : j < 2 * b.cross.length) :
    inQ (uniD a b) i < 4 * a.cross.length ∧ 4 * a.cross.length ≤ inQ (uniD a b) (j + 2 * a.cross.length) ∧ inQ (uniD a b) (j + 2 * a.cross.length) < 4 * (a.cross.length + b.cross.length) := by
  have hl := uniD_len a b
  have hu := uni_sound h
  obtain ⟨_, lx, ax, _⟩ := inQ_find hu hi (by omega)
  obtain ⟨_, ly, ay, _⟩ := inQ_find hu (a := j + 2 * a.cross.length) (by omega) (by omega)
  refine ⟨?_, ?_, by omega⟩
  · rcases Nat.lt_or_ge (inQ (uniD a b) i) (4 * a.cross.length) with k | k
    · exact k
    · obtain ⟨r, hr⟩ : ∃ r, inQ (uniD a b) i = 4 * a.cross.length + r := ⟨_, (Nat.add_sub_cancel' k).symm⟩
      have lr : r < 4 * b.cross.length := by omega
      rw [hr, uni_arc_hi lr] at ax
      have := h.sb.arcQ lr
      omega
  · rcases Nat.lt_or_ge (inQ (uniD a b) (j + 2 * a.cross.length)) (4 * a.cross.length) with k | k
    · rw [uni_arc_lo k] at ay
      have := h.sa.arcQ k
      omega
    · exact k
theorem spl_splice (h : Both a b) (hi : 0 ≤ i) (hi2 : i < 2 * a.cross.length) (hj : 0 ≤ j) (hj2 : j < 2 * b.cross.length) : Splice (uniD a b) (splD a b i j) (inQ (uniD a b) i) (inQ (uniD a b) (j + 2 * a.cross.length)) := by
  have hl := uniD_len a b
  have hu := uni_sound h
  obtain ⟨_, lx, ax, ix⟩ := inQ_find hu hi (by omega)
  obtain ⟨_, ly, ay, iy⟩ := inQ_find hu (a := j + 2 * a.cross.length) (by omega) (by omega)
  obtain ⟨px, py, py2⟩ := spl_places h hi hi2 hj hj2
  have l1 := setQ_len (uniD a b) (inQ (uniD a b) i) (j + 2 * a.cross.length)
  have ly' : inQ (uniD a b) (j + 2 * a.cross.length) < 4 * (setQ (uniD a b) (inQ (uniD a b) i) (j + 2 * a.cross.length)).cross.length := by omega
  refine ⟨hu, by rw [splD, setQ_len, setQ_len], rfl, setQ_sgn ly' _ (setQ_sgn lx _ fun z hz => hu.sgn_mem hz), lx, ly, ix, iy, fun q hq => ?_, fun q hq => ?_, fun k => ?_⟩
  · rw [splD, setQ_arc ly', setQ_arc lx]
    by_cases e : q = inQ (uniD a b) (j + 2 * a.cross.length)
    · rw [if_pos e, e, swp_b, ax]
    · rw [if_neg e]
      by_cases e2 : q = inQ (uniD a b) i
      · rw [if_pos e2, e2, swp_a, ay]
      · rw [if_neg e2, swp_o e2 e]
  · rw [splD, setQ_inn ly', setQ_inn lx]
  · have := uni_apart h (x := inQ (uniD a b) i / 4) (by omega) k
    omega
theorem spl_sound (h : Both a b) (hi : 0 ≤ i) (hi2 : i < 2 * a.cross.length) (hj : 0 ≤ j) (hj2 : j < 2 * b.cross.length) : SoundP (splD a b i j) := (spl_splice h hi hi2 hj hj2).sound
theorem spl_planar (h : Both a b) (hpa : PlanarP a) (hpb : PlanarP b) (hi : 0 ≤ i) (hi2 : i < 2 * a.cross.length) (hj : 0 ≤ j) (hj2 : j < 2 * b.cross.length) : PlanarP (splD a b i j) := (spl_splice h hi hi2 hj hj2).planar (uni_planar h hpa hpb)
theorem spl_count (h : Both a b) (hi : 0 ≤ i) (hi2 : i < 2 * a.cross.length) (hj : 0 ≤ j) (hj2 : j < 2 * b.cross.length) : compCount (splD a b i j) + 1 = compCount (uniD a b) := (spl_splice h hi hi2 hj hj2).comps.2
theorem spl_writhe (h : Both a b) (hi : 0 ≤ i) (hi2 : i < 2 * a.cross.length) (hj : 0 ≤ j) (hj2 : j < 2 * b.cross.length) : writhe (splD a b i j) = writhe (uniD a b) := by
  have s := spl_splice h hi hi2 hj hj2
  have l1 := setQ_len (uniD a b) (inQ (uniD a b) i) (j + 2 * a.cross.length)
  rw [splD, setQ_writhe (by rw [l1]; exact s.ly), setQ_writhe s.lx]
end
/-! ### A crossing whose arcs are shifted one by one -/
def shTo (k : Int) (x : Cr) (p : Nat) : Cr := ⟨if 0 < p then x.a0 + k else x.a0, if 1 < p then x.a1 + k else x.a1, if 2 < p then x.a2 + k else x.a2, if 3 < p then x.a3 + k else x.a3, x.s⟩
theorem shTo_zero (k : Int) (x : Cr) : shTo k x 0 = x := rfl
theorem shTo_four (k : Int) (x : Cr) : shTo k x 4 = shCr k x := rfl
theorem shTo_get (k : Int) (x : Cr) {p : Nat} (hp : p < 4) : (encCr (shTo k x p))[p]? = some (iv (x.arc p)) := by
  match p, hp with
  | 0, _ => rfl
  | 1, _ => rfl
  | 2, _ => rfl
  | 3, _ => rfl
theorem shTo_set (k : Int) (x : Cr) {p : Nat} (hp : p < 4) : (encCr (shTo k x p)).set p (iv (x.arc p + k)) = encCr (shTo k x (p + 1)) := by
  match p, hp with
  | 0, _ => rfl
  | 1, _ => rfl
  | 2, _ => rfl
  | 3, _ => rfl
theorem DiaAt.cellsV {w : World} {base : Option Addr} {A : Addr} {cap n : Nat} {d : Dia} (h : DiaAt w base A d) : Cells w (vaddr (.slice base n cap)) (d.cross.flatMap encCr) := by
  rcases Nat.eq_zero_or_pos d.cross.length with h0 | h0
  · have : d.cross = [] := List.length_eq_zero_iff.1 h0
    rw [this]; exact Cells.nil _ _
  · rw [h.base h0]; exact h.cells
end Go.V
