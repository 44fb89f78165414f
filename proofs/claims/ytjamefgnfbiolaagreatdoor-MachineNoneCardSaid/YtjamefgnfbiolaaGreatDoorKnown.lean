/- The calls of the law MachineNone are known to come to what they come to. No condition. -/
import Derived.Test.YtjamefgnfbiolaaGreatDoorRan0
import Derived.Test.YtjamefgnfbiolaaGreatDoorRan1
import Derived.Test.YtjamefgnfbiolaaGreatDoorVaiG
namespace Go.Proofs.YtjamefgnfbiolaaGreatDoor
open Go Go.Proofs.Vai Go.ChangeShapes Go.WideShapes Go.ChangeAt Go.RowKit
theorem noNum : NoNum Tryz.prog := noNum_of (by kernel_rfl)
section
variable [Env]
theorem known0 (hB : BaseOK Tryz.prog blocks) : Known Tryz.prog k0 :=
  known_tree (k := 8) noNum hB (orcOf_ok (fun x hx => absurd hx List.not_mem_nil)) (by kernel_rfl) (by kernel_rfl) ran0
theorem known1 (hB : BaseOK Tryz.prog blocks) : Known Tryz.prog k1 :=
  known_tree (k := 8) noNum hB (orcOf_ok (fun x hx => absurd hx List.not_mem_nil)) (by kernel_rfl) (by kernel_rfl) ran1
theorem known2 (hB : BaseOK Tryz.prog blocks) : Known Tryz.prog k2 :=
  known_tree (k := 8) noNum hB (orcOf_ok (fun x hx => by
    simp only [List.mem_cons, List.not_mem_nil, or_false] at hx
    rcases hx with rfl | rfl
    · exact known0 hB
    · exact known1 hB)) (by kernel_rfl) (by kernel_rfl) ran2
theorem known3 (hB : BaseOK Tryz.prog blocks) : Known Tryz.prog k3 :=
  known_tree (k := 8) noNum hB (orcOf_ok (fun x hx => absurd hx List.not_mem_nil)) (by kernel_rfl) (by kernel_rfl) ran3
theorem known4 (hB : BaseOK Tryz.prog blocks) : Known Tryz.prog k4 :=
  known_tree (k := 8) noNum hB (orcOf_ok (fun x hx => by
    simp only [List.mem_cons, List.not_mem_nil, or_false] at hx
    rcases hx with rfl | rfl
    · exact known1 hB
    · exact known3 hB)) (by kernel_rfl) (by kernel_rfl) ran4
theorem known5 (hB : BaseOK Tryz.prog blocks) : Known Tryz.prog k5 :=
  known_tree (k := 8) noNum hB (orcOf_ok (fun x hx => by
    simp only [List.mem_cons, List.not_mem_nil, or_false] at hx
    rcases hx with rfl | rfl
    · exact known2 hB
    · exact known4 hB)) (by kernel_rfl) (by kernel_rfl) ran5
theorem known6 (hB : BaseOK Tryz.prog blocks) : Known Tryz.prog k6 :=
  known_tree (k := 8) noNum hB (orcOf_ok (fun x hx => absurd hx List.not_mem_nil)) (by kernel_rfl) (by kernel_rfl) ran6
theorem known7 (hB : BaseOK Tryz.prog blocks) : Known Tryz.prog k7 :=
  known_tree (k := 8) noNum hB (orcOf_ok (fun x hx => by
    simp only [List.mem_cons, List.not_mem_nil, or_false] at hx
    rcases hx with rfl | rfl
    · exact known3 hB
    · exact known6 hB)) (by kernel_rfl) (by kernel_rfl) ran7
theorem known8 (hB : BaseOK Tryz.prog blocks) : Known Tryz.prog k8 :=
  known_tree (k := 8) noNum hB (orcOf_ok (fun x hx => by
    simp only [List.mem_cons, List.not_mem_nil, or_false] at hx
    rcases hx with rfl | rfl
    · exact known5 hB
    · exact known7 hB)) (by kernel_rfl) (by kernel_rfl) ran8
theorem known9 (hB : BaseOK Tryz.prog blocks) : Known Tryz.prog k9 :=
  known_tree (k := 8) noNum hB (orcOf_ok (fun x hx => by
    simp only [List.mem_cons, List.not_mem_nil, or_false] at hx
    rcases hx with rfl | rfl
    · exact known0 hB
    · exact known1 hB)) (by kernel_rfl) (by kernel_rfl) ran9
theorem known10 (hB : BaseOK Tryz.prog blocks) : Known Tryz.prog k10 :=
  known_tree (k := 8) noNum hB (orcOf_ok (fun x hx => by
    simp only [List.mem_cons, List.not_mem_nil, or_false] at hx
    rcases hx with rfl | rfl
    · exact known5 hB
    · exact known9 hB)) (by kernel_rfl) (by kernel_rfl) ran10
theorem orcOK0 (hB : BaseOK Tryz.prog blocks) : OrcOK Tryz.prog (orcOf [k8, k10]) := orcOf_ok (fun x hx => by
    simp only [List.mem_cons, List.not_mem_nil, or_false] at hx
    rcases hx with rfl | rfl
    · exact known8 hB
    · exact known10 hB)
theorem orcOK1 (hB : BaseOK Tryz.prog blocks) : OrcOK Tryz.prog (orcOf [k8, k10]) := orcOf_ok (fun x hx => by
    simp only [List.mem_cons, List.not_mem_nil, or_false] at hx
    rcases hx with rfl | rfl
    · exact known8 hB
    · exact known10 hB)
end
end Go.Proofs.YtjamefgnfbiolaaGreatDoor
