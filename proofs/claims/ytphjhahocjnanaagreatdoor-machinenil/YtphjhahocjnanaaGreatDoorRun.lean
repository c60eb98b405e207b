/- MachineNil: the call, whatever slice it is given. -/
import Derived.Test.YtphjhahocjnanaaGreatDoorEngC
import Derived.Test.YtphjhahocjnanaaGreatDoorTabB
import Derived.Test.YtphjhahocjnanaaGreatDoorSeq
set_option linter.all false
set_option maxRecDepth 100000
set_option maxHeartbeats 0
namespace Go.Proofs.YtphjhahocjnanaaGreatDoor
open Go Go.Eng Go.RowKit

theorem cmp_at : CmpAt Tryz.prog 275 := by
  intro a b w
  go_enter Tryz.func275, Tryz.ntmps275
  go_wp2
  rw [run_callFunc_extern Tryz.func315 (by kernel_rfl) (by kernel_rfl) (by kernel_rfl) (e := Extern.BytealgCompare.compare) (by kernel_rfl), Lib.run_compareString]
  simp only [Result.andThen]
  rw [Oper.upon_value]
  go_wp2
  go_ret
  exact ⟨rfl, rfl⟩

theorem seq_at : SeqAt Tryz.prog 334 282 9 := by
  intro N h1 h2 w Bs ob hB sv zs hz hc hs
  exact callsIn_wide.1 (apSeq_in Fence.wide 2 trivial rfl (Nat.le_refl _) trivial N h1 h2 w Bs ob hB sv zs hz hc hs)


noncomputable def ovrT : CallF := ovrOf [(275, xCmp), (334, xSeq 282)]
theorem ovrT_ok : CallOK Tryz.prog Tryz.prog.globals.size ovrT := ovr_cons (fun h => xCmp_ok cmp_at h) (ovr_cons (fun h => xSeq_ok seq_at h) ovr_nil)
theorem follows_mixed : Tryz.prog.follows .mixedOrders = true := by kernel_rfl
noncomputable def callT : Nat → CallF := evF knT tab.get dtab.get ovrT
theorem callT_ok (n : Nat) : CallOK Tryz.prog Tryz.prog.globals.size (callT n) := ev_ok follows_mixed knT_ok tab_ok dtab_ok ovrT_ok n

def codeL : Code → Code | .seq a _ => a | c => c
def codeR : Code → Code | .seq _ b => b | c => c
noncomputable def c0 : Code := Tryz.f3.body.getD .skip
noncomputable def c1 : Code := codeL c0
noncomputable def c2 : Code := codeL (codeR c0)
noncomputable def c3 : Code := codeL (codeR (codeR c0))
noncomputable def c4 : Code := codeR (codeR (codeR c0))
theorem f3_body : Tryz.f3.body = some (.seq c1 (.seq c2 (.seq c3 c4))) := by kernel_rfl
theorem f3_n : Tryz.f3.ntmps = 68 := by kernel_rfl
theorem globs : Tryz.prog.globals.size = 8 := by kernel_rfl

noncomputable def kOf (c : Code) : K := evC knT (callT 100000) 100 (ccode Tryz.prog Tryz.prog.globals.size 68 c)
theorem kOf_ok (c : Code) : KOK Tryz.prog 68 c (kOf c) := code_ok follows_mixed knT_ok (callT_ok 100000) 100 c

theorem run1 (x : AV) : outN (kOf c1 (arg0 x) [] ⟨.e, 9⟩) = some (some x) := by kernel_rfl
theorem run2 (x : AV) : outN (kOf c2 (arg0 x) [] ⟨.e, 9⟩) = some (some x) := by kernel_rfl
theorem run4 : endsB true 2 true (kOf c4 .e [] ⟨.e, 8⟩) = true := by kernel_rfl

theorem run3_some (n c : Nat) : (∃ E', kOf c3 (arg0 (.sl 8 0 n c 1 true)) [] ⟨.e, 9⟩ = some (.normal, E', [], ⟨.e, 9⟩)) ∨
    ∃ E', kOf c3 (arg0 (.sl 8 0 n c 1 true)) [] ⟨.e, 9⟩ = some (.ret, E', [], ⟨.e, 9⟩) ∧ E'.get 2 = some (.bool true) := by
  have key : kOf c3 (arg0 (.sl 8 0 n c 1 true)) [] ⟨.e, 9⟩ = (match ilt (.ofNat 20000) (.ofNat n) with
    | true => some (.ret, Tr.put (Tr.put (Tr.put (Tr.put (arg0 (.sl 8 0 n c 1 true)) (some (.sl 8 0 n c 1 true)) 8) (some (.int .i64 (.ofNat n))) 9) (some (.bool (ilt (.ofNat 20000) (.ofNat n)))) 10) (some (.bool true)) 2, [], ⟨.e, 9⟩)
    | false => some (.normal, Tr.put (Tr.put (Tr.put (arg0 (.sl 8 0 n c 1 true)) (some (.sl 8 0 n c 1 true)) 8) (some (.int .i64 (.ofNat n))) 9) (some (.bool (ilt (.ofNat 20000) (.ofNat n)))) 10, [], ⟨.e, 9⟩)) := by kernel_rfl
  rw [key]
  cases ilt (.ofNat 20000) (.ofNat n) with
  | true => exact .inr ⟨_, rfl, Tr.get_put_same _ _ _⟩
  | false => exact .inl ⟨_, rfl⟩

theorem run3_nil : kOf c3 (arg0 .nils) [] ⟨.e, 9⟩ = some (.normal, Tr.put (Tr.put (Tr.put (arg0 .nils) (some .nils) 8) (some (.int .i64 (.ofNat 0))) 9) (some (.bool false)) 10, [], ⟨.e, 9⟩) := by kernel_rfl

/-- the call, given a slice of bytes -/
theorem machineNil_of (v : Value) (x : AV) (μ : Mp) (w : World) (hR : Rel Tryz.prog.globals.size μ ⟨.e, 9⟩ w) (hf : ∀ b, 9 ≤ b → μ b = none) (hx : VR μ x v) (hxx : ∀ μ', μ.le μ' → ∀ v', VR μ' x v' → VR μ x v')
    (h3 : (∃ E', kOf c3 (arg0 x) [] ⟨.e, 9⟩ = some (.normal, E', [], ⟨.e, 9⟩)) ∨ ∃ E', kOf c3 (arg0 x) [] ⟨.e, 9⟩ = some (.ret, E', [], ⟨.e, 9⟩) ∧ E'.get 2 = some (.bool true)) :
    Calls Tryz.prog 3 #[v] w fun e w' => e = .returned (.bool true) ∧ Below w.heap.size w w' := by
  have hg : Tryz.prog.globals.size = 8 := globs
  obtain ⟨E1, S1, r1, g1⟩ := outN_spec (run1 x)
  obtain ⟨E2, S2, r2, g2⟩ := outN_spec (run2 x)
  obtain ⟨E4, S4, r4, g4⟩ := endsB_spec run4
  simp only [if_true] at r4
  refine calls_of_wp_defers Tryz.func3 f3_body ?_
  rw [f3_n]
  -- the end of a way that hands back true
  have fin : ∀ (μ' : Mp) (E' : Env) (a' : Act) (w' : World), Below w.heap.size w w' → EnvR 68 μ' E' a' → E'.get 2 = some (.bool true) → a'.defers = [] → bodyPostD Tryz.prog Tryz.f3 (fun e w' => e = .returned (.bool true) ∧ Below w.heap.size w w') .ret a' w' := by
    intro μ' E' a' w' hb hE he hd
    have hv := hE.get 2 _ he
    simp only [VR] at hv
    show Leaves Tryz.prog Tryz.f3 a'.tmps _ a'.defers .returning w'
    rw [hd]
    exact ⟨_, results_tmp rfl _ _ _, by rw [hv], hb⟩
  -- slot 0 holds the argument all the while
  have e0 : EnvR 68 μ (arg0 x) { tmps := #[v] ++ Array.replicate (68 - 1) undef, defers := [] } :=
    env_arg0 (by simp) (by simpa using hx)
  refine wp_seq (seg2 (kOf_ok c1) r1 hR hf e0 rfl ?_)
  rintro μ1 a1 w1 e hm1 hb1 hE1 hd1 hX
  simp only [XR] at hX; subst hX
  have again : ∀ {μ' : Mp} {E' : Env} {a' : Act}, μ.le μ' → EnvR 68 μ' E' a' → E'.get 0 = some x → EnvR 68 μ (arg0 x) a' := fun hm hE hg =>
    env_arg0 hE.size (hxx _ hm _ (hE.get 0 _ hg))
  have relAt : ∀ w', Rel Tryz.prog.globals.size μ ⟨.e, 9⟩ w' := fun w' =>
    ⟨fun b k h => by (rw [Tr.get_e] at h; cases h), fun b b' k k' L L' h => by (rw [Tr.get_e] at h; cases h), fun b k h => by (rw [Tr.get_e] at h; cases h), hR.glob⟩
  refine wp_seq (seg2 (kOf_ok c2) r2 (relAt w1) hf (again hm1 hE1 g1) hd1 ?_)
  rintro μ2 a2 w2 e hm2 hb2 hE2 hd2 hX
  simp only [XR] at hX; subst hX
  have hb02 : Below w.heap.size w w2 := hb1.trans (hb2.mono hb1.size)
  refine wp_seq ?_
  rcases h3 with ⟨E3, r3⟩ | ⟨E3, r3, g3⟩
  · refine seg2 (kOf_ok c3) r3 (relAt w2) hf (again hm2 hE2 g2) hd2 ?_
    rintro μ3 a3 w3 e hm3 hb3 hE3 hd3 hX
    simp only [XR] at hX; subst hX
    have hb03 : Below w.heap.size w w3 := hb02.trans (hb3.mono hb02.size)
    have r4' : kOf c4 .e [] ⟨.e, Tryz.prog.globals.size⟩ = some (.ret, E4, [], S4) := by rw [hg]; exact r4
    refine seg2 (μ := mu0 Tryz.prog.globals.size) (kOf_ok c4) r4' (rel0 _ w3) (fun b hb => by simp [mu0]; omega) ⟨hE3.size, fun i x hx => by rw [Tr.get_e] at hx; cases hx⟩ hd3 ?_
    rintro μ4 a4 w4 e hm4 hb4 hE4 hd4 hX
    simp only [XR] at hX; subst hX
    exact fin μ4 E4 a4 w4 (hb03.trans (hb4.mono hb03.size)) hE4 g4 hd4
  · refine seg2 (kOf_ok c3) r3 (relAt w2) hf (again hm2 hE2 g2) hd2 ?_
    rintro μ3 a3 w3 e hm3 hb3 hE3 hd3 hX
    simp only [XR] at hX; subst hX
    exact fin μ3 E3 a3 w3 (hb02.trans (hb3.mono hb02.size)) hE3 g3 hd3

theorem machineNil_slice (blk off n c : Nat) (hn : n ≤ c) (w : World) : Calls Tryz.prog 3 #[.slice (some ⟨blk, off, none⟩) n c] w fun e w' => e = .returned (.bool true) ∧ Below w.heap.size w w' := by
  refine machineNil_of _ (.sl 8 0 n c 1 true) ((mu0 8).upd 8 ⟨blk, off, c⟩) w ?_ ?_ ?_ ?_ (run3_some n c)
  · refine ⟨fun b k h => by (rw [Tr.get_e] at h; cases h), fun b b' k k' L L' h => by (rw [Tr.get_e] at h; cases h), fun b k h => by (rw [Tr.get_e] at h; cases h), fun g hg => ⟨0, ?_⟩⟩
    rw [globs] at hg
    rw [Mp.upd_ne _ _ (by omega)]
    simp [mu0, hg]
  · intro b hb
    rw [Mp.upd_ne _ _ (by omega)]
    simp [mu0]; omega
  · simp only [VR]
    exact ⟨_, c, Mp.upd_same _ _ _, by simp, Nat.le_refl _, by simp, by simp, hn⟩
  · intro μ' hle v' hv
    simp only [VR] at hv ⊢
    obtain ⟨L, c', hL, h1, h2⟩ := hv
    rw [hle _ _ (Mp.upd_same _ _ _)] at hL
    cases hL
    exact ⟨_, c', Mp.upd_same _ _ _, h1, h2⟩

theorem run3_esl : kOf c3 (arg0 .esl) [] ⟨.e, 9⟩ = some (.normal, Tr.put (Tr.put (Tr.put (arg0 .esl) (some .esl) 8) (some (.int .i64 (.ofNat 0))) 9) (some (.bool false)) 10, [], ⟨.e, 9⟩) := by kernel_rfl

theorem machineNil_empty (a : Addr) (c : Nat) (w : World) : Calls Tryz.prog 3 #[.slice (some a) 0 c] w fun e w' => e = .returned (.bool true) ∧ Below w.heap.size w w' := by
  refine machineNil_of _ .esl (mu0 8) w ?_ ?_ ?_ ?_ (.inl ⟨_, run3_esl⟩)
  · have := rel0 8 w
    exact ⟨fun b k h => by (rw [Tr.get_e] at h; cases h), fun b b' k k' L L' h => by (rw [Tr.get_e] at h; cases h), fun b k h => by (rw [Tr.get_e] at h; cases h), by rw [globs]; exact this.glob⟩
  · intro b hb; simp [mu0]; omega
  · simp only [VR]; exact ⟨a, c, rfl⟩
  · intro μ' _ v' hv; simpa only [VR] using hv

theorem machineNil_nil (w : World) : Calls Tryz.prog 3 #[.slice none 0 0] w fun e w' => e = .returned (.bool true) ∧ Below w.heap.size w w' := by
  refine machineNil_of _ .nils (mu0 8) w ?_ ?_ ?_ ?_ (.inl ⟨_, run3_nil⟩)
  · have := rel0 8 w
    exact ⟨fun b k h => by (rw [Tr.get_e] at h; cases h), fun b b' k k' L L' h => by (rw [Tr.get_e] at h; cases h), fun b k h => by (rw [Tr.get_e] at h; cases h), by rw [globs]; exact this.glob⟩
  · intro b hb; simp [mu0]; omega
  · simp [VR]
  · intro μ' _ v' hv; simpa only [VR] using hv

end Go.Proofs.YtphjhahocjnanaaGreatDoor
