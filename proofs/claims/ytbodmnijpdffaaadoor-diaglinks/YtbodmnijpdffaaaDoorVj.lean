/- The proof layer, part j: heaplets put together; what stays while others turn. -/
import Derived.Test.YtbodmnijpdffaaaDoorVi
namespace Go.V
open Go
theorem Sym.unall {w0 w : World} {S : Nat → Prop} : ∀ {l L : List HL}, Sym w0 S (HL.all l :: L) w → Sym w0 S (l ++ L) w
  | [], L, hs => hs.sub (HSub.skip (HSub.refl _))
  | h :: r, L, hs => by
    have h1 : Sym w0 S (h :: HL.all r :: L) w := Sym.unstar hs
    have h2 : Sym w0 S (HL.all r :: h :: L) w := h1.sub (HSub.pick 1 rfl (HSub.refl _))
    have h3 := Sym.unall (l := r) h2
    exact h3.sub ⟨_, (List.perm_middle (l₁ := r) (a := h) (l₂ := L)).symm, List.Sublist.refl _⟩
theorem Sym.all {w0 w : World} {S : Nat → Prop} : ∀ {l L : List HL}, Sym w0 S (l ++ L) w → Sym w0 S (HL.all l :: L) w
  | [], L, hs => hs.emp
  | h :: r, L, hs => by
    have h1 : Sym w0 S (r ++ h :: L) w := hs.sub ⟨_, List.perm_middle, List.Sublist.refl _⟩
    have h2 := Sym.all (l := r) h1
    exact Sym.star (h2.sub (HSub.pick 1 rfl (HSub.refl _)))
theorem Sym.keep {w0 w w' : World} {S : Nat → Prop} {K h : HL} {R : List HL} (hs : Sym w0 S (K :: R) w) {i : Nat} (hi : R[i]? = some h) (ho : Old K.supp w w') : h.holds w' := by
  have hm := List.mem_of_getElem? hi
  refine h.loc w w' (fun b hb => ho.block b (hs.supp h (List.mem_cons_of_mem _ hm) b hb).1 (fun hk => (List.pairwise_cons.1 hs.apart).1 h hm b hk hb)) (hs.holds h (List.mem_cons_of_mem _ hm))
theorem Sym.oldK {w0 w w' : World} {K : HL} {R : List HL} (hs : Sym w0 Nil (K :: R) w) (ho : Old K.supp w w') : Old Nil w0 w' :=
  hs.old.step ho fun i hi hk => by
    rcases (hs.supp K (List.mem_cons_self ..) i hk).2 with h | h
    · omega
    · exact h
theorem Sym.ltK {w0 w : World} {S : Nat → Prop} {K : HL} {R : List HL} (hs : Sym w0 S (K :: R) w) : ∀ b, K.supp b → b < w.heap.size := fun b hb => (hs.supp K (List.mem_cons_self ..) b hb).1
theorem Ok.results1 {C : Cx} {F : Fr} {L : List HL} {a : Act} {w : World} (ok : Ok C F L a w) {fn : Func} {x : ResultVar} {v : Value} (hr : fn.results = #[x]) (h : Holds C F L x v) : (results fn a.tmps).run C.P w = .ok v w := V.results1 hr h ok
end Go.V
