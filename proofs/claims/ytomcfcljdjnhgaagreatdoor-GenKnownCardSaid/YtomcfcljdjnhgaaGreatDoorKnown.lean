/- The calls of the law GenKnown are known to come to what they come to. No condition. -/
import Derived.Test.YtomcfcljdjnhgaaGreatDoorRan0
import Derived.Test.YtomcfcljdjnhgaaGreatDoorVaiG
import Derived.Test.YtomcfcljdjnhgaaGreatDoorErrno
namespace Go.Proofs.YtomcfcljdjnhgaaGreatDoor
open Go Go.Proofs.Vai Go.ChangeShapes Go.WideShapes Go.ChangeAt Go.RowKit
noncomputable instance : Env := envHand blocks 0 (.iface 224 (.agg #[.pointer (some ⟨8, 100, none⟩)])) (of_decide_eq_true (by kernel_rfl))
theorem known_errno (e : Nat) : Known Tryz.prog (38, [.val (.iface 135 (.agg [.int .i64 (Int.ofNat e)]))], .tree (.val (.int .i64 (Int.ofNat e)))) :=
  known_below (by
    obtain ⟨c, hc⟩ : ∃ c, Tryz.f38.body = some c := Option.isSome_iff_exists.1 (by kernel_rfl)
    exact ⟨_, c, Tryz.func38, hc⟩) fun μ s args us w hfit ha hb => by
    cases ha with
    | nil => rw [fitArgs] at hfit; cases hfit
    | cons v u vs us hv hvs =>
      rw [fitArgs] at hfit
      obtain ⟨h1, h2⟩ := cnd_and (show cnd (fitArg s (.val (.iface 135 (.agg [.int .i64 (Int.ofNat e)]))) v) (fitArgs s [] vs) false = true from hfit)
      rw [fitArg] at h1
      have hv0 := eqAV_eq 4 _ _ h1
      subst hv0
      cases hvs with
      | cons _ _ _ _ _ _ => rw [fitArgs] at h2; cases h2
      | nil =>
        cases hv with
        | iface _ _ x hx => cases hx with
          | agg _ C hC _ => cases hC with
            | cons _ y _ ys hy hys => cases hys; cases hy; exact ⟨.int .i64 (Int.ofNat e), .int _ _, errno_hit (Int.ofNat e) w hb.2⟩
theorem noNum : NoNum Tryz.prog := noNum_of (by kernel_rfl)
theorem baseOK : BaseOK Tryz.prog blocks := ⟨rfl, by kernel_rfl, fun _ h => h.1⟩
theorem known0 : Known Tryz.prog k0 :=
  known_tree (k := 8) noNum baseOK (orcOf_ok (fun x hx => absurd hx List.not_mem_nil)) (by kernel_rfl) (by kernel_rfl) ran0
theorem known1 : Known Tryz.prog k1 := known_errno 7
theorem known2 : Known Tryz.prog k2 :=
  known_tree (k := 8) noNum baseOK (orcOf_ok (fun x hx => absurd hx List.not_mem_nil)) (by kernel_rfl) (by kernel_rfl) ran2
theorem known3 : Known Tryz.prog k3 :=
  known_tree (k := 8) noNum baseOK (orcOf_ok (fun x hx => by
    simp only [List.mem_cons, List.not_mem_nil, or_false] at hx
    rcases hx with rfl
    · exact known2)) (by kernel_rfl) (by kernel_rfl) ran3
theorem known4 : Known Tryz.prog k4 :=
  known_tree (k := 8) noNum baseOK (orcOf_ok (fun x hx => absurd hx List.not_mem_nil)) (by kernel_rfl) (by kernel_rfl) ran4
theorem orcOK : OrcOK Tryz.prog (orcOf [k0, k1, k3, k4]) := orcOf_ok (fun x hx => by
    simp only [List.mem_cons, List.not_mem_nil, or_false] at hx
    rcases hx with rfl | rfl | rfl | rfl
    · exact known0
    · exact known1
    · exact known3
    · exact known4)
end Go.Proofs.YtomcfcljdjnhgaaGreatDoor
