/- maps.Clone at map[int]bool: the library's contract, laid over this program. -/
import Derived.Shelf.SlMaps.Clone
import Derived.Test.YtjgljgkfflojbaaK1
namespace Go.Proofs.Ytjgljgkfflojbaa.A
open Go Go.RowKit
set_option linter.unusedVariables false
set_option linter.unusedSimpArgs false

def mcRen : Go.Shelf.Ren := ⟨fun | 5 => 41 | 7 => 55 | n => n, fun | 4 => 4 | 20 => 20 | 23 => 73 | 25 => 3 | 3 => 4 | n => n, fun n => n⟩
theorem mcLays : Go.Proofs.SlLaysW.n5 Try.prog mcRen where
  mixed := by kernel_rfl
  f5 := ⟨"maps.Clone[map[int]bool,int,bool]", by decide, Try.func41.trans (congrArg some (by kernel_rfl))⟩
  f7 := Try.func55.trans (congrArg some (by kernel_rfl))
  t4 := Try.underlying4
  a4 := Try.isAgg4
  z4 := Try.sizeOf4
  v4 := Try.zeroValue4
  t20 := Try.underlying20
  a20 := Try.isAgg20
  z20 := Try.sizeOf20
  v20 := Try.zeroValue20
  t23 := Try.underlying73
  a23 := Try.isAgg73
  z23 := Try.sizeOf73
  v23 := Try.zeroValue73
theorem c_MapClone (r : Nat) (es : List (Int × Value)) (H : Hp) (hm : HasMap H r es) (R : Ending → Hp → Prop) (hR : ∀ r', R (.returned (.map (some r'))) ⟨H.M, .obj r' (imapObj es) :: H.L⟩) : ACalls Try.prog 41 [.map (some r)] H R := by
  refine acalls_mk Try.func41 rfl rfl fun w0 F w hr => ?_
  have hb : w.heap[r]? = some (imapObj es) := by
    rcases hm with h | h
    · exact hr.M r _ h
    · exact hr.holds (.obj r (imapObj es)) (List.mem_append_left _ h)
  refine (Go.Proofs.AnyW.maps_Clone mcLays r _ _ w hb).mono fun e w' ⟨he, hw⟩ => ?_
  subst he hw
  refine ⟨_, ?_, hR w.heap.size⟩
  refine Rep.add (L := H.L ++ F) hr (Keeps.alloc _ w _) ?_ ?_
  · show (w.alloc (imapObj es)).heap[w.heap.size]? = some (imapObj es)
    exact (Go.MapKept.heap_alloc w _).1
  · intro g hg
    simp only [Atom.foot, Option.some.injEq] at hg
    omega
end Go.Proofs.Ytjgljgkfflojbaa.A
