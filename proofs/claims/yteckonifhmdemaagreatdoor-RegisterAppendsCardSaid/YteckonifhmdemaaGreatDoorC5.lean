/-
  sane answers true.
-/
import Derived.Test.YteckonifhmdemaaGreatDoorA2
import Derived.Test.YteckonifhmdemaaGreatDoorC1
import Derived.Test.YteckonifhmdemaaGreatDoorC2
import Derived.Test.YteckonifhmdemaaGreatDoorC3
import Derived.Test.YteckonifhmdemaaGreatDoorC4
set_option linter.all false
/-
  sane answers true.
-/
namespace Go.Rg
open Go Go.Pv Go.Proofs.Tryz
set_option maxRecDepth 1000000
set_option linter.unusedVariables false
/-- Equal, as far as one sees. -/
def bytesEq : List UInt8 → List UInt8 → Bool
  | [], [] => true
  | a :: r, b :: s => Nat.beq a.toNat b.toNat && bytesEq r s
  | _, _ => false
mutual
def veq : V → V → Bool
  | .sc (.int .i64 a), .sc (.int .i64 b) => decide (a = b)
  | .sc (.bool a), .sc (.bool b) => a == b
  | .sc (.string ⟨⟨a⟩⟩), .sc (.string ⟨⟨b⟩⟩) => bytesEq a b
  | .list s xs .no, .list t ys .no => Nat.beq s t && veqLL xs ys
  | .agg a, .agg b => veqL a b
  | _, _ => false
def veqL : List V → List V → Bool
  | [], [] => true
  | a :: r, b :: s => veq a b && veqL r s
  | _, _ => false
def veqLL : List (List V) → List (List V) → Bool
  | [], [] => true
  | a :: r, b :: s => veqL a b && veqLL r s
  | _, _ => false
end
theorem bytesEq_eq : ∀ (a b : List UInt8), bytesEq a b = true → a = b
  | [], [], _ => rfl
  | a :: r, b :: s, h => by
    simp only [bytesEq, Bool.and_eq_true] at h
    rw [bytesEq_eq r s h.2, UInt8.toNat_inj.1 (Nat.eq_of_beq_eq_true h.1)]
  | [], _ :: _, h => by simp [bytesEq] at h
  | _ :: _, [], h => by simp [bytesEq] at h
mutual
theorem veq_eq (a b : V) (h : veq a b = true) : a = b := by
  unfold veq at h
  split at h
  · rw [of_decide_eq_true h]
  · rw [eq_of_beq h]
  · rw [bytesEq_eq _ _ h]
  · simp only [Bool.and_eq_true] at h
    rw [Nat.eq_of_beq_eq_true h.1, veqLL_eq _ _ h.2]
  · rw [veqL_eq _ _ h]
  · simp at h
theorem veqL_eq (a b : List V) (h : veqL a b = true) : a = b := by
  unfold veqL at h
  split at h
  · rfl
  · simp only [Bool.and_eq_true] at h
    rw [veq_eq _ _ h.1, veqL_eq _ _ h.2]
  · simp at h
theorem veqLL_eq (a b : List (List V)) (h : veqLL a b = true) : a = b := by
  unfold veqLL at h
  split at h
  · rfl
  · simp only [Bool.and_eq_true] at h
    rw [veqL_eq _ _ h.1, veqLL_eq _ _ h.2]
  · simp at h
end
def memoTab : List (Nat × List V × V) := [(52, sa_p, sv_p),
  (52, sa_first, sv_first),
  (52, sa_second, sv_second),
  (52, sa_a, sv_a),
  (52, sa_b, sv_b),
  (52, sa_whole, sv_whole),
  (52, sa_early, sv_early),
  (34, sa_growth, sv_growth),
  (34, sa_others, sv_others),
  (34, sa_wrong, sv_wrong),
  (26, sa_join1, sv_join1),
  (26, sa_join2, sv_join2),
  (35, sa_ext1, sv_ext1),
  (35, sa_ext2, sv_ext2),
  (35, sa_ext3, sv_ext3),
  (22, sa_con1, sv_con1),
  (22, sa_con2, sv_con2),
  (22, sa_con3, sv_con3),
  (22, sa_con4, sv_con4),
  (40, sa_gen1, sv_gen1),
  (40, sa_gen2, sv_gen2),
  (24, sa_bad, sv_bad)]
def findM (g : Nat) (args : List V) : List (Nat × List V × V) → Option V
  | [] => none
  | m :: r => if Nat.beq m.1 g && veqL m.2.1 args then some m.2.2 else findM g args r
noncomputable def memoP (g : Nat) (args : List V) (h : H) : Option (V × H) :=
  match prog.funcs[g]? with
  | some fn => ((normVs prog fn.params.toList args).run h).bind fun a => (findM g a.1 memoTab).map fun v => (v, a.2)
  | none => none
noncomputable def memoOf (g : Nat) : Option (List V → H → Option (V × H)) := if [22, 24, 26, 34, 35, 40, 52].contains g then some (memoP g) else primOf g
theorem memoTab_ok : ∀ m ∈ memoTab, ∀ h, T.call m.1 m.2.1 h = some (m.2.2, h) := by
  intro m hm h
  simp only [memoTab, List.mem_cons, List.not_mem_nil, or_false] at hm
  rcases hm with rfl | rfl | rfl | rfl | rfl | rfl | rfl | rfl | rfl | rfl | rfl | rfl | rfl | rfl | rfl | rfl | rfl | rfl | rfl | rfl | rfl | rfl
  · exact (top_ge C18 2000).call _ _ _ _ (sf_p h)
  · exact (top_ge C18 2000).call _ _ _ _ (sf_first h)
  · exact (top_ge C18 2000).call _ _ _ _ (sf_second h)
  · exact (top_ge C18 2000).call _ _ _ _ (sf_a h)
  · exact (top_ge C18 2000).call _ _ _ _ (sf_b h)
  · exact (top_ge C18 2000).call _ _ _ _ (sf_whole h)
  · exact (top_ge C18 2000).call _ _ _ _ (sf_early h)
  · exact (top_ge C18 2000).call _ _ _ _ (sf_growth h)
  · exact (top_ge C18 2000).call _ _ _ _ (sf_others h)
  · exact (top_ge C18 2000).call _ _ _ _ (sf_wrong h)
  · exact (top_ge C18 2000).call _ _ _ _ (sf_join1 h)
  · exact (top_ge C18 2000).call _ _ _ _ (sf_join2 h)
  · exact (top_ge C18 2000).call _ _ _ _ (sf_ext1 h)
  · exact (top_ge C18 2000).call _ _ _ _ (sf_ext2 h)
  · exact (top_ge C18 2000).call _ _ _ _ (sf_ext3 h)
  · exact (top_ge C18 2000).call _ _ _ _ (sf_con1 h)
  · exact (top_ge C18 2000).call _ _ _ _ (sf_con2 h)
  · exact (top_ge C18 2000).call _ _ _ _ (sf_con3 h)
  · exact (top_ge C18 2000).call _ _ _ _ (sf_con4 h)
  · exact (top_ge C18 2000).call _ _ _ _ (sf_gen1 h)
  · exact (top_ge C18 2000).call _ _ _ _ (sf_gen2 h)
  · exact (top_ge C18 2000).call _ _ _ _ (sf_bad h)
/-- What is asked of an entry. -/
def MemoOk (m : Nat × List V × V) : Prop := ∃ fn body, prog.funcs[m.1]? = some fn ∧ fn.body = some body ∧ (fn.name == "runtime.NumGoroutine") = false ∧ rawOf m.1 = false ∧ primOf m.1 = none ∧ (∀ h, (normVs prog fn.params.toList m.2.1).run h = some (m.2.1, h)) ∧ m.2.1.all isArg = true ∧ ∀ h, T.call m.1 m.2.1 h = some (m.2.2, h)
theorem memoTab_ok2 : ∀ m ∈ memoTab, MemoOk m := by
  intro m hm
  have h0 := memoTab_ok m hm
  simp only [memoTab, List.mem_cons, List.not_mem_nil, or_false] at hm
  rcases hm with rfl | rfl | rfl | rfl | rfl | rfl | rfl | rfl | rfl | rfl | rfl | rfl | rfl | rfl | rfl | rfl | rfl | rfl | rfl | rfl | rfl | rfl
  · exact ⟨_, _, rfl, rfl, by decide +kernel, rfl, rfl, fun h => by kernel_rfl, by kernel_rfl, h0⟩
  · exact ⟨_, _, rfl, rfl, by decide +kernel, rfl, rfl, fun h => by kernel_rfl, by kernel_rfl, h0⟩
  · exact ⟨_, _, rfl, rfl, by decide +kernel, rfl, rfl, fun h => by kernel_rfl, by kernel_rfl, h0⟩
  · exact ⟨_, _, rfl, rfl, by decide +kernel, rfl, rfl, fun h => by kernel_rfl, by kernel_rfl, h0⟩
  · exact ⟨_, _, rfl, rfl, by decide +kernel, rfl, rfl, fun h => by kernel_rfl, by kernel_rfl, h0⟩
  · exact ⟨_, _, rfl, rfl, by decide +kernel, rfl, rfl, fun h => by kernel_rfl, by kernel_rfl, h0⟩
  · exact ⟨_, _, rfl, rfl, by decide +kernel, rfl, rfl, fun h => by kernel_rfl, by kernel_rfl, h0⟩
  · exact ⟨_, _, rfl, rfl, by decide +kernel, rfl, rfl, fun h => by kernel_rfl, by kernel_rfl, h0⟩
  · exact ⟨_, _, rfl, rfl, by decide +kernel, rfl, rfl, fun h => by kernel_rfl, by kernel_rfl, h0⟩
  · exact ⟨_, _, rfl, rfl, by decide +kernel, rfl, rfl, fun h => by kernel_rfl, by kernel_rfl, h0⟩
  · exact ⟨_, _, rfl, rfl, by decide +kernel, rfl, rfl, fun h => by kernel_rfl, by kernel_rfl, h0⟩
  · exact ⟨_, _, rfl, rfl, by decide +kernel, rfl, rfl, fun h => by kernel_rfl, by kernel_rfl, h0⟩
  · exact ⟨_, _, rfl, rfl, by decide +kernel, rfl, rfl, fun h => by kernel_rfl, by kernel_rfl, h0⟩
  · exact ⟨_, _, rfl, rfl, by decide +kernel, rfl, rfl, fun h => by kernel_rfl, by kernel_rfl, h0⟩
  · exact ⟨_, _, rfl, rfl, by decide +kernel, rfl, rfl, fun h => by kernel_rfl, by kernel_rfl, h0⟩
  · exact ⟨_, _, rfl, rfl, by decide +kernel, rfl, rfl, fun h => by kernel_rfl, by kernel_rfl, h0⟩
  · exact ⟨_, _, rfl, rfl, by decide +kernel, rfl, rfl, fun h => by kernel_rfl, by kernel_rfl, h0⟩
  · exact ⟨_, _, rfl, rfl, by decide +kernel, rfl, rfl, fun h => by kernel_rfl, by kernel_rfl, h0⟩
  · exact ⟨_, _, rfl, rfl, by decide +kernel, rfl, rfl, fun h => by kernel_rfl, by kernel_rfl, h0⟩
  · exact ⟨_, _, rfl, rfl, by decide +kernel, rfl, rfl, fun h => by kernel_rfl, by kernel_rfl, h0⟩
  · exact ⟨_, _, rfl, rfl, by decide +kernel, rfl, rfl, fun h => by kernel_rfl, by kernel_rfl, h0⟩
  · exact ⟨_, _, rfl, rfl, by decide +kernel, rfl, rfl, fun h => by kernel_rfl, by kernel_rfl, h0⟩
theorem findM_ok (g : Nat) (args : List V) (v : V) : ∀ l : List (Nat × List V × V), (∀ m ∈ l, MemoOk m) → findM g args l = some v → MemoOk (g, args, v)
  | [], _, e => by simp [findM] at e
  | m :: r, hl, e => by
    simp only [findM] at e
    split at e
    · rename_i hc
      simp only [Bool.and_eq_true] at hc
      have h1 := hl m (by simp)
      obtain ⟨m1, m2, m3⟩ := m
      obtain rfl := Nat.eq_of_beq_eq_true hc.1
      obtain rfl := veqL_eq _ _ hc.2
      obtain rfl := Option.some.inj e
      exact h1
    · exact findM_ok g args v r (fun m hm => hl m (by simp [hm])) e
theorem memo_ok : ∀ g p args h r, memoOf g = some p → p args h = some r → (top C18).call g args h = some r := by
  intro g p args h r hg hp
  unfold memoOf at hg
  split at hg
  · obtain rfl := Option.some.inj hg
    unfold memoP at hp
    split at hp
    · rename_i fn hfn
      cases ha : (normVs prog fn.params.toList args).run h with
      | none => rw [ha] at hp; simp at hp
      | some a =>
        rw [ha] at hp
        simp only [Option.bind_some] at hp
        cases hf : findM g a.1 memoTab with
        | none => rw [hf] at hp; simp at hp
        | some v =>
          rw [hf] at hp
          obtain rfl := Option.some.inj hp
          obtain ⟨fn', body, k1, k2, k3, k4, k5, k6, k7, k8⟩ := findM_ok g a.1 v memoTab memoTab_ok2 hf
          obtain rfl : fn = fn' := Option.some.inj (hfn.symm.trans k1)
          have e1 : argsHP C18 g fn.params.toList args = normVs prog fn.params.toList args := by rw [C18_args]; exact if_neg (by rw [k4]; simp)
          have e2 : argsHP C18 g fn.params.toList a.1 = normVs prog fn.params.toList a.1 := by rw [C18_args]; exact if_neg (by rw [k4]; simp)
          rw [call_norm (C := C18) (g := g) (args' := a.1) (h1 := a.2) k5 k1 k2 k3 (by rw [e1]; exact ha) (by rw [e2]; exact k6 a.2) k7]
          exact k8 a.2
    · simp at hp
  · rw [call_prim C18 (p := p) hg]; exact hp
theorem memo_none : ∀ g, memoOf g = none → C18.prim g = none := by
  intro g hg
  unfold memoOf at hg
  split at hg
  · simp at hg
  · exact hg
theorem sane_iter (h : H) : (iter (C18.with memoOf) 3000).call 12 [] h = some (.sc (.bool true), h) := by kernel_rfl
theorem sane_12 (h : H) : T.call 12 [] h = some (.sc (.bool true), h) := (memo_le memoOf memo_ok memo_none 3000).call _ _ _ _ (sane_iter h)
end Go.Rg
