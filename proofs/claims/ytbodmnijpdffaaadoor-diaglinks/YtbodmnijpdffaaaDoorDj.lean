/- Diagrams as data, part j: the chapter's examples. -/
import Derived.Test.YtbodmnijpdffaaaDoorDi
namespace Go.V
open Go
def hopfD : Dia := ⟨[⟨0, 3, 1, 2, 1⟩, ⟨3, 0, 2, 1, 1⟩], 0⟩
def flatD : Dia := ⟨[⟨0, 3, 1, 2, 1⟩, ⟨3, 1, 2, 0, -1⟩], 0⟩
def mirH : Dia := ⟨[⟨2, 0, 3, 1, -1⟩, ⟨1, 3, 0, 2, -1⟩], 0⟩
theorem hopf_sound : SoundP hopfD := by unfold SoundP; decide +kernel
theorem flat_sound : SoundP flatD := by unfold SoundP; decide +kernel
theorem mirH_sound : SoundP mirH := by unfold SoundP; decide +kernel
theorem mir_hopf : mapD mirCr hopfD = mirH := by decide +kernel
theorem planar_of_conn {d : Dia} (h : ∀ c c', c < d.cross.length → c' < d.cross.length → Conn d c c') (hn : (regsOf d).length = d.cross.length + 2) : PlanarP d := fun c hc => by
  have h1 : pieceOf d c = List.range d.cross.length := by
    rw [pieceOf, List.filter_eq_self]
    intro x hx
    exact connB_iff.2 (h c x hc (List.mem_range.1 hx))
  have h2 : cntReg d c = (regsOf d).length := by
    rw [cntReg, List.filter_eq_self.2]
    intro r hr
    obtain ⟨q, hq, e⟩ := regsTo_mem d _ r hr
    have := (regionOf_head (d := d) (q := q) (by omega)).1
    rw [e, this]
    exact connB_iff.2 (h c _ hc (by omega))
  rw [h1, h2, List.length_range, hn]
theorem conn_two {d : Dia} (hs : SoundP d) (hl : d.cross.length = 2) {p : Nat} (hp : p < 4) (h : otherQ d (4 * 0 + p) / 4 = 1) : ∀ c c', c < d.cross.length → c' < d.cross.length → Conn d c c' := by
  have h01 : Conn d 0 1 := h ▸ Conn.step .refl hp
  have h10 : Conn d 1 0 := h01.symm hs (by omega)
  intro c c' hc hc'
  have h1 : c = 0 ∨ c = 1 := by omega
  have h2 : c' = 0 ∨ c' = 1 := by omega
  rcases h1 with rfl | rfl <;> rcases h2 with rfl | rfl
  · exact .refl
  · exact h01
  · exact h10
  · exact .refl
theorem hopf_ok : checkI hopfD = 0 := checkI_ok.2 ⟨hopf_sound, planar_of_conn (conn_two hopf_sound rfl (p := 0) (by decide) (by decide +kernel)) (by decide +kernel)⟩
theorem mirH_ok : checkI mirH = 0 := checkI_ok.2 ⟨mirH_sound, planar_of_conn (conn_two mirH_sound rfl (p := 0) (by decide) (by decide +kernel)) (by decide +kernel)⟩
theorem flat_bad : checkI flatD = 221 := checkI_unplanar flat_sound fun h => by
  have h1 := h 0 (by decide)
  have h2 : cntReg flatD 0 ≤ (regsOf flatD).length := List.length_filter_le _ _
  have h3 : (regsOf flatD).length = 2 := by decide +kernel
  have h4 : 0 < (pieceOf flatD 0).length := List.length_pos_of_mem (piece_self (by decide))
  omega
theorem hopf_comp : compOf hopfD = [0, 0, 1, 1] := by decide +kernel
theorem hopf_count : compCount hopfD = 2 := by decide +kernel
theorem hopf_writhe : writhe hopfD = 2 := by decide +kernel
theorem hopf_linkR : linkR hopfD 0 1 = 1 := by decide +kernel
theorem hopf_linkE : linkE hopfD 0 1 = 0 := by decide +kernel
theorem hopf_regs : (regsOf hopfD).length = 4 := by decide +kernel
theorem mirH_small : ∀ x ∈ mirH.cross, SmallCr x := by unfold SmallCr; decide +kernel
theorem num_small {i : Nat} (h : i < 10) : numS (i : Int) = ⟨#[UInt8.ofNat (48 + i)]⟩ := by
  rw [numS, Int.toNat_natCast, Lib.decDigits, dif_pos h]
theorem mirH_text : textOf mirH = ⟨#[45, 32, 50, 32, 48, 32, 51, 32, 49, 59, 32, 45, 32, 49, 32, 51, 32, 48, 32, 50, 32, 124, 32, 48]⟩ := by
  have n0 := num_small (i := 0) (by decide)
  have n1 := num_small (i := 1) (by decide)
  have n2 := num_small (i := 2) (by decide)
  have n3 := num_small (i := 3) (by decide)
  simp only [textOf, mirH, List.length_cons, List.length_nil, List.map_cons, List.map_nil, crS, crTo, Cr.arc, sgnS]
  simp only [show ((0 : Nat) : Int) = 0 from rfl, show ((1 : Nat) : Int) = 1 from rfl, show ((2 : Nat) : Int) = 2 from rfl, show ((3 : Nat) : Int) = 3 from rfl] at n0 n1 n2 n3
  rw [n0, n1, n2, n3]
  decide +kernel
end Go.V
