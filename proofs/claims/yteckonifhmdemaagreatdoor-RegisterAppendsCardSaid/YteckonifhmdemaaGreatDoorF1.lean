/-
  what every row of the seat needs.
-/
import Derived.Test.YteckonifhmdemaaGreatDoorCards
import Derived.Test.YteckonifhmdemaaGreatDoorTie
import Derived.WalkKit
import Derived.ProofKit
import Derived.OpenShut
import Derived.Deep.DeepHandedRow
import Derived.Lib.LaidTab
import Derived.Carry
import Derived.SliceStrings
import Derived.Test.YteckonifhmdemaaGreatDoorD1
import Derived.Test.YteckonifhmdemaaGreatDoorE1
set_option linter.all false
/-
  What every row of the seat needs: arguments read, the table, the way back.
-/
namespace Go.Rg
open Go Go.Pv Go.Proofs.Tryz Go.RowKit Go.ChangeShapes Go.WideShapes Go.Proofs.YteckonifhmdemaaGreatDoor
set_option maxRecDepth 1000000
set_option maxHeartbeats 1000000
def tysOk (P : Program) (ts : List TypeId) : Bool := ts.all fun t => P.readableRec t && decide (t < P.types.size)
section
variable {H : Type} {enc : TypeId × Value → H} {P : Program}
theorem stays_all (hl : laidOutB P = true) {W W' : World} (hb : Below W.heap.size W W') {sp : Nat → Bool} : ∀ {ts : List TypeId} {vs : List Value} {ds : List (DataW H)} {ps : List MemPlace}, tysOk P ts = true → DataW.TrodAll enc P W 0 (fun _ => true) true ts vs ds ps →
    (∀ x ∈ ps, x.block < W.heap.size) → (∀ x ∈ ps, sp x.block = true) → DataW.TrodAll enc P W' 0 sp true ts vs ds ps
  | [], vs, ds, ps, _, h, _, _ => by
    obtain ⟨rfl, rfl, rfl⟩ := trodAll_nil h
    exact trodAll_mk0
  | t :: ts, vs, ds, ps, ht, h, hlt, hs => by
    obtain ⟨v, vs1, d, ds1, p, q, rfl, rfl, rfl, h1, h2⟩ := trodAll_cons h
    simp only [tysOk, List.all_cons, Bool.and_eq_true, decide_eq_true_eq] at ht
    refine trodAll_cons_mk (WideElems.Trod_stays hl ht.1.1 ht.1.2 h1 (fun x hx => hb.same (hlt x (List.mem_append_left _ hx))) (fun x hx => hs x (List.mem_append_left _ hx))) ?_
    exact stays_all hl hb (by simpa [tysOk] using ht.2) h2 (fun x hx => hlt x (List.mem_append_right _ hx)) (fun x hx => hs x (List.mem_append_right _ hx))
/-- Of what was there nothing has turned; it answers true. -/
theorem post_true (hl : laidOutB P = true) {tb : TypeId} (hu : P.underlying tb = some .bool) {f : Func} {s : ChangeSpec} {apart fresh handsOn again : Bool} {W W' : World} {args : Array Value} {ds gs : List (DataW H)} {before : List MemPlace} (hv : s.vars = []) (hrt : f.resultTypes = #[tb]) (hty : tysOk P f.params.toList = true)
    (hfn : (s.fn H ds).results = [.lit (.bool true)] ∧ (s.fn H ds).args = ds ∧ (s.fn H ds).vars = [])
    (hW : DataW.Whole enc P f.params.toList s.vars apart W args.toList ds gs before) (hb : Below W.heap.size W W') :
    s.post enc P f apart fresh handsOn again W args (.bool true) W' := by
  have hlt0 := hW.lt
  obtain ⟨p, q, hA, hV, rfl, hz, hn⟩ := id hW
  rw [hv] at hV
  obtain ⟨rfl, rfl⟩ := trodVars_none hV
  have hlt : ∀ x ∈ p, x.block < W.heap.size := fun x hx => hlt0 x (by simp [hx])
  obtain ⟨f1, f2, f3⟩ := hfn
  have hres : ∀ (b : Nat) (sp : Nat → Bool) (hd : Bool), DataW.TrodAll enc P W' b sp hd f.resultTypes.toList ((Value.bool true).resultList f.resultTypes.size) [.lit (.bool true)] [] := by
    intro b sp hd
    rw [hrt]
    exact trodAll_cons_mk (shut_bool hu _) trodAll_mk0
  have hargs : ∀ sp : Nat → Bool, (∀ x ∈ p, sp x.block = true) → DataW.TrodAll enc P W' 0 sp true f.params.toList args.toList ds p := fun sp hs => stays_all hl hb hty hA hlt hs
  refine ⟨ds, [], p ++ [], [], p, [], hW, ?_, ?_, ?_, hb.frame _, fun _ => ⟨?_, [.lit (.bool true)] ++ ds, [], ([] ++ p) ++ [], ⟨[] ++ p, [], ?_, ?_, rfl, ?_, ?_⟩, ?_⟩⟩
  · rw [List.append_nil, f1]; exact hres _ _ _
  · rw [List.append_nil, f2]; exact hargs _ (fun x hx => by simpa using hlt x hx)
  · rw [List.append_nil, f3, hv]; rfl
  · exact ok_one hrt rfl (okWide_bool_mk hu _)
  · exact trodAll_append (hargs _ (fun _ _ => rfl)) (hres _ _ _)
  · rw [hv]; rfl
  · intro b off hp
    have hp' : MemPlace.cell b off ∈ p := by simpa using hp
    have : W'.frozen? ⟨b, off, none⟩ = W.frozen? ⟨b, off, none⟩ := hb.frozen (hlt _ hp')
    rw [this]
    exact hz b off (by simpa using hp')
  · intro ha
    simpa using hn ha
  · intro x hx _
    simpa using hx
/-! ### Arguments -/
theorem wf64_inv {n : Int} (h : (Lit.int .i64 n).wf = true) : i64Ok n := by
  have e : (Lit.int .i64 n).wf = (decide (-9223372036854775808 ≤ n) && decide (n ≤ 9223372036854775807)) := rfl
  rw [e] at h
  simp only [Bool.and_eq_true, decide_eq_true_eq] at h
  exact h
theorem add0 (a : Addr) : a.add 0 = a := by
  cases a with
  | mk b o s => cases s <;> simp [Addr.add]
theorem addr_of {w : World} {a : Addr} {v : Value} (h : w.cell? a = some v) : a = at_ a.block a.off := by
  unfold World.cell? at h
  split at h
  · split at h
    · simp at h
    · rename_i hs
      cases a
      simp at hs
      subst hs; rfl
  · simp at h
theorem rd_ints {w : World} {t e : TypeId} (ht : P.underlying t = some (.slice e)) (he : P.underlying e = some (.int .i64)) (hc : P.cellsOf e = 1) {base : Nat} {v : Value} {d : DataW H} {p : List MemPlace} (hone : v.cells.toList = [v])
    (h : DataW.Trod enc P w base (fun _ => true) true t v d p) : ∃ x : List Int, RD (fun b o => w.cell? (at_ b o)) (.list 1 (ints x) .no) v ∧ ∀ n ∈ x, i64Ok n := by
  obtain ⟨fuel, h⟩ := h
  rcases open_ints ht he hc h with ⟨hv, _⟩ | ⟨a, len, cap, zs, hv, _, hl, _, hzl, _, hcell, hwf⟩
  · rw [hone] at hv
    obtain rfl : v = .slice none 0 0 := by simpa using hv
    exact ⟨[], RD.list' (xs := []) (Rows.nil _ _ 0 0) (fun k => absurd rfl k) (Nat.zero_le _), by simp⟩
  · rw [hone] at hv
    obtain rfl : v = .slice (some a) len cap := by simpa using hv
    simp only [if_true] at hzl
    have hlen : (zs.take len).length = len := by rw [List.length_take]; omega
    refine ⟨zs.take len, ?_, fun n hn => wf64_inv (hwf n (List.mem_of_mem_take hn))⟩
    have hrows : Pv.Rows (fun b o => w.cell? (at_ b o)) 1 (ints (zs.take len)) a.block a.off := by
      refine ⟨fun x hx => by obtain ⟨n, _, rfl⟩ := List.mem_map.1 hx; rfl, fun i k x y hx hy => ?_⟩
      rw [ints, List.getElem?_map] at hx
      obtain ⟨n, hn, rfl⟩ := Option.map_eq_some_iff.1 hx
      have hk : k = 0 := by have := (List.getElem?_eq_some_iff.1 hy).1; simp at this; exact this
      subst hk
      simp only [List.getElem?_cons_zero, Option.some.injEq] at hy
      subst hy
      have hi : i < zs.length := by have := (List.getElem?_eq_some_iff.1 hn).1; rw [List.length_take] at this; omega
      have hc1 := hcell i hi
      have ha := addr_of (hcell 0 (by omega))
      refine ⟨.int .i64 n, ?_, .sc _ rfl⟩
      rw [List.getElem?_take] at hn
      split at hn
      · have e1 : zs.getD i 0 = n := by rw [List.getD_eq_getElem?_getD, hn]; rfl
        rw [e1] at hc1
        have e2 : a.add 0 = a := add0 a
        rw [e2] at ha
        rw [ha, add_at] at hc1
        simpa using hc1
      · simp at hn
    have hb0 : ints (zs.take len) ≠ [] → some a = some (at_ a.block a.off) := by
      intro hne
      have : 0 < zs.length := by
        cases zs with
        | nil => simp [ints] at hne
        | cons z zs => simp
      have ha := addr_of (hcell 0 this)
      have e2 : a.add 0 = a := add0 a
      rw [e2] at ha
      exact congrArg some ha
    have := RD.list' (a := some a) (cap := cap) hrows hb0 (by rw [ints_length, hlen]; exact hl)
    rw [ints_length, hlen] at this
    exact this
end
theorem laidOut : laidOutB prog = true := by kernel_rfl
/-! ### The table -/
theorem gTab : prog.globalNamed "dialtone/digest.round" = some 0 := by kernel_rfl
theorem gTabT : ∃ t e n, (prog.globals[0]?).map (·.type) = some t ∧ prog.underlying t = some (.array n e) ∧ prog.underlying e = some (.int .u32) ∧ prog.cellsOf e = 1 ∧ prog.cellsOf t = n := by
  refine ⟨((prog.globals[0]?).map (·.type)).getD 0, 114, 64, by kernel_rfl, by kernel_rfl, un114, co114, by kernel_rfl⟩
theorem laid_tab : (Rows.laid_dialtone_digest_round : DataW Unit) = Lib.tabData .u32 (Sha.kTab.map Sha.w) := by kernel_rfl
theorem glOk {W : World} (h : laidMetH prog [("dialtone/digest.round", Rows.laid_dialtone_digest_round)] W) : GOk C18.toCx (WT.of C18 W) := by
  obtain ⟨t, e, n, g1, g2, g3, g4, g5⟩ := gTabT
  have h' : laidMet prog (("dialtone/digest.round", Lib.tabData .u32 (Sha.kTab.map Sha.w)) :: []) W := by rw [← laid_tab]; exact h
  have htab : Lib.TabIs prog W "dialtone/digest.round" .u32 (Sha.kTab.map Sha.w) := Lib.tabIs_of_head (rest := []) gTab g1 g2 g3 g4 g5 h'
  intro g cs hg k y hy
  have hg' : glOf g = some cs := hg
  unfold glOf at hg'
  split at hg'
  · simp only [Option.some.injEq] at hg'
    subst hg'
    unfold Sha.wV at hy
    rw [List.getElem?_map] at hy
    obtain ⟨z, hz, rfl⟩ := Option.map_eq_some_iff.1 hy
    have hk : k < (Sha.kTab.map Sha.w).length := by rw [List.length_map]; exact (List.getElem?_eq_some_iff.1 hz).1
    have hc := htab.cell gTab k hk
    refine ⟨.int .u32 (Sha.w z), ?_, .sc _ rfl⟩
    show W.cell? (at_ 0 k) = _
    have e1 : (Sha.kTab.map Sha.w).getD k 0 = Sha.w z := by rw [List.getD_eq_getElem?_getD, List.getElem?_map, hz]; rfl
    rw [e1] at hc
    exact hc
  · simp at hg'
end Go.Rg
