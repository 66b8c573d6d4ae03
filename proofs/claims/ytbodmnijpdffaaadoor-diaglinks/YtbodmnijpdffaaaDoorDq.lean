/- Plain laws, part q: mirror images, reflections and reversals are valid; they undo themselves and commute. -/
import Derived.Test.YtbodmnijpdffaaaDoorDp
namespace Go.V
open Go
theorem mapD_mapD (f g : Cr → Cr) (d : Dia) : mapD g (mapD f d) = mapD (fun x => g (f x)) d := by simp [mapD]
theorem mapD_congr {f g : Cr → Cr} {d : Dia} (h : ∀ x ∈ d.cross, f x = g x) : mapD f d = mapD g d := by
  simp only [mapD, Dia.mk.injEq, and_true]
  exact List.map_congr_left h
theorem mapD_same {f : Cr → Cr} {d : Dia} (h : ∀ x ∈ d.cross, f x = x) : mapD f d = d := by
  have : mapD f d = mapD (fun x => x) d := mapD_congr h
  rw [this]; simp [mapD]
theorem mem_at {d : Dia} {x : Cr} (hx : x ∈ d.cross) : ∃ c, c < d.cross.length ∧ crAt d c = x := by
  obtain ⟨c, hc⟩ := List.getElem?_of_mem hx
  exact ⟨c, (List.getElem?_eq_some_iff.1 hc).1, crAt_eq hc⟩
theorem SoundP.sgn_mem {d : Dia} (h : SoundP d) {x : Cr} (hx : x ∈ d.cross) : x.s = 1 ∨ x.s = -1 := (h.2.2.2.1 x hx).1
theorem checkI_of {d : Dia} (h : SoundP d) (hp : PlanarP d) : checkI d = 0 := checkI_ok.2 ⟨h, hp⟩
/-! ### Mirror images -/
theorem mir_mir {x : Cr} (h : x.s = 1 ∨ x.s = -1) : mirCr (mirCr x) = x := by
  obtain ⟨a0, a1, a2, a3, s⟩ := x
  rcases h with h | h <;> simp only at h <;> subst h <;> rfl
theorem mir_sgn {x : Cr} (h : x.s = 1 ∨ x.s = -1) : (mirCr x).s = -x.s := by
  obtain ⟨a0, a1, a2, a3, s⟩ := x
  rcases h with h | h <;> simp only at h <;> subst h <;> rfl
theorem mir_inn {x : Cr} (h : x.s = 1 ∨ x.s = -1) {p : Nat} (hp : p < 4) : (mirCr x).inn p = x.inn ((p + rotK x) % 4) := by
  obtain ⟨a0, a1, a2, a3, s⟩ := x
  rcases h with h | h <;> simp only at h <;> subst h <;> match p, hp with
  | 0, _ => simp [mirCr, rotK, Cr.inn]
  | 1, _ => simp [mirCr, rotK, Cr.inn]
  | 2, _ => simp [mirCr, rotK, Cr.inn]
  | 3, _ => simp [mirCr, rotK, Cr.inn]
theorem sigM_div (d : Dia) (q : Nat) : sigM d q / 4 = q / 4 := by simp only [sigM]; omega
theorem sigM_mod (d : Dia) (q : Nat) : sigM d q % 4 = (q % 4 + rotK (crAt d (q / 4))) % 4 := by simp only [sigM]; omega
theorem sigM_rot (d : Dia) (k q : Nat) : sigM d (rotQ k q) = rotQ k (sigM d q) := by
  have h1 := rotQ_div k q
  have h2 := rotQ_mod k q
  have h3 := sigM_div d q
  have h4 := sigM_mod d q
  simp only [sigM, h1, h2]
  simp only [rotQ]
  omega
theorem relabF_mir {d : Dia} (h : SoundP d) : RelabF d (mirD d) (sigM d) (fun _ => false) where
  toRelab := relab_mir d
  sur q hq := ⟨rotQ (4 - rotK (crAt d (q / 4))) q, by simp only [rotQ]; omega, by
    have : rotK (crAt d (q / 4)) = 3 ∨ rotK (crAt d (q / 4)) = 1 := by simp only [rotK]; split <;> simp
    rw [sigM, rotQ_div, rotQ_mod]
    omega⟩
  inn q hq := by
    have hc : q / 4 < d.cross.length := by omega
    rw [innQ, mirD, crAt_map hc, mir_inn (h.sgn hc) (by omega), innQ, sigM_div, sigM_mod, Bool.xor_false]
  sgn x hx := by
    obtain ⟨y, hy, rfl⟩ := List.mem_map.1 hx
    rw [mir_sgn (h.sgn_mem hy)]
    have := h.sgn_mem hy
    omega
  lps := rfl
theorem mirD_mirD {d : Dia} (h : SoundP d) : mirD (mirD d) = d := by
  rw [mirD, mirD, mapD_mapD]; exact mapD_same fun x hx => mir_mir (h.sgn_mem hx)
theorem mir_sound {d : Dia} (h : SoundP d) : SoundP (mirD d) := (relabF_mir h).sound h
theorem mir_moves {d : Dia} (h : SoundP d) : Moves (mirD d) d (sigM d) := (relab_mir d).moves_rot h (mir_sound h) fun q _ => sigM_rot d 3 q
theorem conn_iff {d d' : Dia} {σ τ : Nat → Nat} (r : Relab d d' σ) (r' : Relab d' d τ) (h : SoundP d) (h' : SoundP d') (a c : Nat) (ha : a < d.cross.length) : Conn d a c ↔ Conn d' a c := ⟨fun k => r'.conn h' h (by rw [r.len]; exact ha) k, fun k => r.conn h h' ha k⟩
theorem mir_planar {d : Dia} (h : SoundP d) (hp : PlanarP d) : PlanarP (mirD d) := by
  have h' := mir_sound h
  have r := relab_mir d
  have r' := relab_mir (mirD d)
  have m' := mir_moves h'
  have e := mirD_mirD h
  rw [show mapD mirCr (mirD d) = d from e] at r'
  rw [e] at m'
  exact planar_of h h' (mapD_len _ _) (conn_iff r r' h h') m' (mir_moves h) hp
theorem mir_comp {d : Dia} (h : SoundP d) : compOf (mirD d) = compOf d ∧ compCount (mirD d) = compCount d := (relabF_mir h).comp h (fun q _ => sigM_rot d 2 q) (fun _ _ => rfl)
/-! ### Reflections -/
theorem ref_ref (x : Cr) : refCr (refCr x) = x := by
  obtain ⟨a0, a1, a2, a3, s⟩ := x
  simp [refCr]
theorem ref_inn {x : Cr} (h : x.s = 1 ∨ x.s = -1) {p : Nat} (hp : p < 4) : (refCr x).inn p = x.inn ((4 - p) % 4) := by
  obtain ⟨a0, a1, a2, a3, s⟩ := x
  rcases h with h | h <;> simp only at h <;> subst h <;> match p, hp with
  | 0, _ => rfl
  | 1, _ => rfl
  | 2, _ => rfl
  | 3, _ => rfl
theorem sigR_div (q : Nat) : sigR q / 4 = q / 4 := by simp only [sigR]; omega
theorem sigR_mod (q : Nat) : sigR q % 4 = (4 - q % 4) % 4 := by simp only [sigR]; omega
theorem relabF_ref {d : Dia} (h : SoundP d) : RelabF d (refD d) sigR (fun _ => false) where
  toRelab := relab_ref d
  sur q hq := ⟨sigR q, by simp only [sigR]; omega, by simp only [sigR]; omega⟩
  inn q hq := by
    have hc : q / 4 < d.cross.length := by omega
    rw [innQ, refD, crAt_map hc, ref_inn (h.sgn hc) (by omega), innQ, sigR_div, sigR_mod, Bool.xor_false]
  sgn x hx := by
    obtain ⟨y, hy, rfl⟩ := List.mem_map.1 hx
    have := h.sgn_mem hy
    show -y.s = 1 ∨ -y.s = -1
    omega
  lps := rfl
theorem refD_refD (d : Dia) : refD (refD d) = d := by
  rw [refD, refD, mapD_mapD]; exact mapD_same fun x _ => ref_ref x
theorem ref_sound {d : Dia} (h : SoundP d) : SoundP (refD d) := (relabF_ref h).sound h
theorem ref_moves {d : Dia} (h : SoundP d) : Moves (refD d) d (fun q => otherQ d (sigR q)) := (relab_ref d).moves_ref h (ref_sound h) fun q _ => by simp only [sigR, rotQ]; omega
theorem ref_planar {d : Dia} (h : SoundP d) (hp : PlanarP d) : PlanarP (refD d) := by
  have h' := ref_sound h
  have r := relab_ref d
  have r' := relab_ref (refD d)
  have m' := ref_moves h'
  have e := refD_refD d
  rw [show mapD refCr (refD d) = d from e] at r'
  rw [e] at m'
  exact planar_of h h' (mapD_len _ _) (conn_iff r r' h h') m' (ref_moves h) hp
theorem ref_comp {d : Dia} (h : SoundP d) : compOf (refD d) = compOf d ∧ compCount (refD d) = compCount d := (relabF_ref h).comp h (fun q _ => by simp only [sigR, rotQ]; omega) (fun _ _ => rfl)
theorem ref_mir {d : Dia} (h : SoundP d) : refD (mirD d) = mirD (refD d) := by
  rw [refD, mirD, mapD_mapD, refD, mirD, mapD_mapD]
  refine mapD_congr fun x hx => ?_
  obtain ⟨a0, a1, a2, a3, s⟩ := x
  rcases h.sgn_mem hx with h | h <;> simp only at h <;> subst h <;> rfl
/-! ### Reversals -/
def revD (d : Dia) (comps : List Int) : Dia := mapD (revCr (compOf d) comps) d
noncomputable def flV (d : Dia) (comps : List Int) (a : Int) : Bool := decide ((compOf d).getD a.toNat 0 ∈ comps)
noncomputable def sigV (d : Dia) (comps : List Int) (q : Nat) : Nat := if flV d comps (crAt d (q / 4)).a0 = true then rotQ 2 q else q
theorem revB_arc {lo hi : Bool} {x : Cr} {p : Nat} (hp : p < 4) : (revB lo hi x).arc p = x.arc (if lo = true then (p + 2) % 4 else p) := by
  cases lo <;> match p, hp with
  | 0, _ => rfl
  | 1, _ => rfl
  | 2, _ => rfl
  | 3, _ => rfl
theorem revB_inn {lo hi : Bool} {x : Cr} (h : x.s = 1 ∨ x.s = -1) {p : Nat} (hp : p < 4) : (revB lo hi x).inn p = (x.inn (if lo = true then (p + 2) % 4 else p) ^^ (if p % 2 = 0 then lo else hi)) := by
  obtain ⟨a0, a1, a2, a3, s⟩ := x
  rcases h with h | h <;> simp only at h <;> subst h <;> cases lo <;> cases hi <;> match p, hp with
  | 0, _ => rfl
  | 1, _ => rfl
  | 2, _ => rfl
  | 3, _ => rfl
theorem sigV_div (d : Dia) (comps : List Int) (q : Nat) : sigV d comps q / 4 = q / 4 := by
  simp only [sigV]; split
  · exact rotQ_div 2 q
  · rfl
theorem sigV_rot (d : Dia) (comps : List Int) (k q : Nat) : sigV d comps (rotQ k q) = rotQ k (sigV d comps q) := by
  simp only [sigV, rotQ_div]
  split
  · simp only [rotQ]; omega
  · rfl
theorem sigV_sigV (d : Dia) (comps : List Int) (q : Nat) : sigV d comps (sigV d comps q) = q := by
  have h := sigV_div d comps q
  by_cases hf : flV d comps (crAt d (q / 4)).a0 = true
  · have e : sigV d comps q = rotQ 2 q := by rw [sigV, if_pos hf]
    rw [e, sigV, rotQ_div, if_pos hf, rotQ_22]
  · have e : sigV d comps q = q := by rw [sigV, if_neg hf]
    rw [e, e]
theorem revCr_eq (d : Dia) (comps : List Int) (x : Cr) : revCr (compOf d) comps x = revB (flV d comps x.a0) (flV d comps x.a1) x := rfl
theorem SoundP.fl_rot {d : Dia} (h : SoundP d) (comps : List Int) {q : Nat} (hq : q < 4 * d.cross.length) : flV d comps (V.arcQ d (rotQ 2 q)) = flV d comps (V.arcQ d q) := by
  simp only [flV, h.comp_rot hq]
theorem relab_rev (d : Dia) (comps : List Int) : Relab d (revD d comps) (sigV d comps) where
  len := mapD_len _ _
  cr q _ := sigV_div d comps q
  inj q q' _ _ e := by rw [← sigV_sigV d comps q, e, sigV_sigV]
  arc q hq := by
    have hc : q / 4 < d.cross.length := by omega
    rw [arcQ, revD, crAt_map hc, revCr_eq, revB_arc (by omega), arcQ, sigV_div]
    congr 1
    simp only [sigV]
    split
    · rw [rotQ_mod]
    · rfl
theorem fl_sig {d : Dia} (h : SoundP d) (comps : List Int) {q : Nat} (hq : q < 4 * d.cross.length) : flV d comps (arcQ d (sigV d comps q)) = flV d comps (arcQ d q) := by
  by_cases hf : flV d comps (crAt d (q / 4)).a0 = true
  · rw [sigV, if_pos hf, h.fl_rot comps hq]
  · rw [sigV, if_neg hf]
theorem fl_par {d : Dia} (h : SoundP d) (comps : List Int) {q : Nat} (hq : q < 4 * d.cross.length) : flV d comps (arcQ d q) = if q % 4 % 2 = 0 then flV d comps (crAt d (q / 4)).a0 else flV d comps (crAt d (q / 4)).a1 := by
  have hc : q / 4 < d.cross.length := by omega
  have h1 := h.comp_lo hc
  have h2 := h.comp_hi hc
  have h4 : q % 4 < 4 := by omega
  rw [arcQ]
  generalize q % 4 = p at h4 ⊢
  match p, h4 with
  | 0, _ => rfl
  | 1, _ => rfl
  | 2, _ => show flV d comps (crAt d (q / 4)).a2 = flV d comps (crAt d (q / 4)).a0; simp only [flV, h1]
  | 3, _ => show flV d comps (crAt d (q / 4)).a3 = flV d comps (crAt d (q / 4)).a1; simp only [flV, h2]
theorem revB_sgn {lo hi : Bool} {x : Cr} (h : x.s = 1 ∨ x.s = -1) : (revB lo hi x).s = 1 ∨ (revB lo hi x).s = -1 := by
  simp only [revB]; split <;> omega
theorem relabF_rev {d : Dia} (h : SoundP d) (comps : List Int) : RelabF d (revD d comps) (sigV d comps) (flV d comps) where
  toRelab := relab_rev d comps
  sur q hq := ⟨sigV d comps q, by have := sigV_div d comps q; omega, sigV_sigV d comps q⟩
  inn q hq := by
    have hc : q / 4 < d.cross.length := by omega
    rw [fl_sig h comps hq, fl_par h comps hq, innQ, revD, crAt_map hc, revCr_eq, revB_inn (h.sgn hc) (by omega), innQ, sigV_div]
    congr 2
    simp only [sigV]
    split
    · rw [rotQ_mod]
    · rfl
  sgn x hx := by
    obtain ⟨y, hy, rfl⟩ := List.mem_map.1 hx
    exact revB_sgn (h.sgn_mem hy)
  lps := rfl
theorem rev_sound {d : Dia} (h : SoundP d) (comps : List Int) : SoundP (revD d comps) := (relabF_rev h comps).sound h
theorem rev_comp {d : Dia} (h : SoundP d) (comps : List Int) : compOf (revD d comps) = compOf d ∧ compCount (revD d comps) = compCount d := (relabF_rev h comps).comp h (fun q _ => sigV_rot d comps 2 q) (fun _ hq => h.fl_rot comps hq)
theorem revB_revB (lo hi : Bool) (x : Cr) : revB lo hi (revB lo hi x) = x := by
  obtain ⟨a0, a1, a2, a3, s⟩ := x
  cases lo <;> cases hi <;> simp [revB]
theorem revD_revD {d : Dia} (h : SoundP d) (comps : List Int) : revD (revD d comps) comps = d := by
  rw [revD, (rev_comp h comps).1, revD, mapD_mapD]
  refine mapD_same fun x hx => ?_
  obtain ⟨c, hc, rfl⟩ := mem_at hx
  have h1 := h.comp_lo hc
  have h2 := h.comp_hi hc
  have key : ∀ lo hi : Bool, (lo = flV d comps (crAt d c).a0) → (hi = flV d comps (crAt d c).a1) → revCr (compOf d) comps (revB lo hi (crAt d c)) = crAt d c := by
    intro lo hi hlo hhi
    rw [revCr_eq]
    have e1 : flV d comps (revB lo hi (crAt d c)).a0 = lo := by
      cases lo with
      | false => exact hlo.symm
      | true => show flV d comps (crAt d c).a2 = true; rw [hlo]; simp only [flV, h1]
    have e2 : flV d comps (revB lo hi (crAt d c)).a1 = hi := by
      cases lo with
      | false => exact hhi.symm
      | true => show flV d comps (crAt d c).a3 = hi; rw [hhi]; simp only [flV, h2]
    rw [e1, e2, revB_revB]
  exact key _ _ rfl rfl
theorem rev_moves {d : Dia} (h : SoundP d) (comps : List Int) : Moves (revD d comps) d (sigV d comps) := (relab_rev d comps).moves_rot h (rev_sound h comps) fun q _ => sigV_rot d comps 3 q
theorem rev_planar {d : Dia} (h : SoundP d) (comps : List Int) (hp : PlanarP d) : PlanarP (revD d comps) := by
  have h' := rev_sound h comps
  have r := relab_rev d comps
  have r' := relab_rev (revD d comps) comps
  have m' := rev_moves h' comps
  have e := revD_revD h comps
  rw [e] at r' m'
  exact planar_of h h' (mapD_len _ _) (conn_iff r r' h h') m' (rev_moves h comps) hp
theorem rev_mir {d : Dia} (h : SoundP d) (comps : List Int) : revD (mirD d) comps = mirD (revD d comps) := by
  rw [revD, (mir_comp h).1, mirD, mapD_mapD, mirD, revD, mapD_mapD]
  refine mapD_congr fun x hx => ?_
  obtain ⟨c, hc, rfl⟩ := mem_at hx
  have h1 := h.comp_lo hc
  have h2 := h.comp_hi hc
  have e0 : flV d comps (crAt d c).a2 = flV d comps (crAt d c).a0 := by simp only [flV, h1]
  have e1 : flV d comps (crAt d c).a3 = flV d comps (crAt d c).a1 := by simp only [flV, h2]
  have hs := h.sgn hc
  rw [revCr_eq, revCr_eq]
  generalize crAt d c = x at e0 e1 hs ⊢
  obtain ⟨a0, a1, a2, a3, s⟩ := x
  simp only at e0 e1 hs
  rcases hs with hs | hs
  · subst hs
    show revB (flV d comps a3) (flV d comps a0) ⟨a3, a0, a1, a2, -1⟩ = mirCr (revB (flV d comps a0) (flV d comps a1) ⟨a0, a1, a2, a3, 1⟩)
    rw [e1]
    cases flV d comps a0 <;> cases flV d comps a1 <;> rfl
  · subst hs
    show revB (flV d comps a1) (flV d comps a2) ⟨a1, a2, a3, a0, 1⟩ = mirCr (revB (flV d comps a0) (flV d comps a1) ⟨a0, a1, a2, a3, -1⟩)
    rw [e0]
    cases flV d comps a0 <;> cases flV d comps a1 <;> rfl
/-- What the program works out with marks is the reversal. -/
theorem rev_marks {d : Dia} (h : SoundP d) (comps : List Int) : mapD (fun x => revB ((markB comps (compCount d + d.loops.toNat) comps.length).getD ((compOf d).getD x.a0.toNat 0).toNat false) ((markB comps (compCount d + d.loops.toNat) comps.length).getD ((compOf d).getD x.a1.toNat 0).toNat false) x) d = revD d comps := by
  refine mapD_congr fun x hx => ?_
  have key : ∀ a : Int, 0 ≤ a → a < 2 * d.cross.length → (markB comps (compCount d + d.loops.toNat) comps.length).getD ((compOf d).getD a.toNat 0).toNat false = flV d comps a := fun a h0 h1 => by
    have hl : a.toNat < (compOf d).length := by rw [compOf_len]; omega
    have hm : (compOf d).getD a.toNat 0 ∈ compOf d := List.mem_of_getElem? (getD_get hl 0)
    obtain ⟨g0, g1⟩ := comp_range h hm (comp_nonneg hm)
    rw [List.getD_eq_getElem?_getD, markB_get (by omega), List.take_length, show ((((compOf d).getD a.toNat 0).toNat : Nat) : Int) = (compOf d).getD a.toNat 0 by omega]
    rfl
  have hb := (h.2.2.2.1 x hx).2
  have b0 := hb 0 (by omega)
  have b1 := hb 1 (by omega)
  show revB _ _ x = revB _ _ x
  rw [key x.a0 b0.1 b0.2, key x.a1 b1.1 b1.2]
  rfl
end Go.V
