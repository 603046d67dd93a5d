/- Every operation that the evaluator takes for one that looks at no memory: what it gives is what the model gives, in whatever world. Conditions: as each theorem states. -/
import Derived.Test.YtjihmonajekomaaGreatDoorAx7
namespace Go.Proofs.YtjihmonajekomaaGreatDoor.Ax
open Go Go.RowKit
set_option linter.unusedVariables false

theorem run_vwrap {P : Program} {s : Sem Value} {v : Value} {w w' : World} (h : s.run P w = .ok v w') : ((do pure (Next.value (← s))) : Sem Next).run P w = .ok (.value v) w' := by simp [h]

theorem optVR_of {φ : Emb} {env : List AV} {ρ : Operand → Value} (ho : Opds φ env ρ) {x : Option Operand} {y : Option AOpd} (h : cOpdO x = some y) : OptVR φ (y.map (·.ev env)) (x.map ρ) := by
  cases x with
  | none => simp [cOpdO] at h; subst h; trivial
  | some x =>
    simp only [cOpdO, Option.map_eq_some_iff] at h
    obtain ⟨a, h1, rfl⟩ := h
    exact ho x a h1

/-- Nothing is asked of the guard against two nil interfaces where one side is no interface. -/
theorem eqGuard_plain {P : Program} (op : BinOp) (t : TypeId) (x y : Operand) (a b : Value) (h : ¬ (a = .nilIface ∧ b = .nilIface)) (h' : ¬ ((∃ c, a = .agg c) ∧ ∃ c, b = .agg c)) (w : World) : (eqGuard op t x y a b).run P w = .ok () w := by
  unfold eqGuard
  cases op <;> cases a <;> cases b <;> simp_all

theorem pure_mov {P : Program} {x : Operand} {y : AOpd} {φ : Emb} {env : List AV} {ρ : Operand → Value} (ho : Opds φ env ρ) (h : cOpd x = some y) {v : AV} (hv : evalPure env (.mov y) = some v) (w : World) :
    ∃ v', ((pure (Next.value (ρ x))) : Sem Next).run P w = .ok (.value v') w ∧ VR φ v v' := by
  simp only [evalPure, Option.some.injEq] at hv
  subst hv
  exact ⟨_, by simp, ho x y h⟩

theorem typeAssert_to {P : Program} {φ : Emb} {t xt : TypeId} {d : TypeDesc} (ht : P.underlying t = some d) (hd : ∀ ms, d ≠ .interface ms) {z : AV} (hz : zeroOf P t = some z) {ok : Bool} {env : List AV} {y : AOpd} {v : AV} {x' : Value} (hx : VR φ (y.ev env) x')
    (hv : evalPure env (.assertTo t z ok y) = some v) (w : World) : ∃ v', (Instr.typeAssert x' xt t ok).run P w = .ok v' w ∧ VR φ v v' := by
  obtain ⟨zv, hz1, hz2⟩ := zeroOf_sound hz φ w
  simp only [evalPure] at hv
  split at hv
  · rename_i ex
    rw [ex] at hx
    obtain rfl := vr_nilIface hx
    cases ok with
    | false => simp at hv
    | true =>
      simp at hv; subst hv
      refine ⟨.tuple #[zv, .bool false], ?_, by simp only [VR]; exact ⟨_, rfl, VRs.cons hz2 (VRs.cons (by simp [VR]) VRs.nil)⟩⟩
      unfold Instr.typeAssert
      cases d <;> simp_all [run_und w ht]
  · rename_i u a ex
    rw [ex] at hx
    obtain ⟨u', rfl, hu⟩ := vr_iface hx
    by_cases e : u = t
    · rw [if_pos e] at hv
      simp at hv; subst hv
      refine ⟨if ok then .tuple #[u', .bool true] else u', ?_, ?_⟩
      · unfold Instr.typeAssert
        cases d <;> simp_all [run_und w ht]
      · cases ok
        · simpa using hu
        · simp only [if_true, VR]; exact ⟨_, rfl, VRs.cons hu (VRs.cons (by simp [VR]) VRs.nil)⟩
    · rw [if_neg e] at hv
      cases ok with
      | false => simp at hv
      | true =>
        simp at hv; subst hv
        refine ⟨.tuple #[zv, .bool false], ?_, by simp only [VR]; exact ⟨_, rfl, VRs.cons hz2 (VRs.cons (by simp [VR]) VRs.nil)⟩⟩
        unfold Instr.typeAssert
        cases d <;> simp_all [run_und w ht]
  · cases hv

theorem typeAssert_iface {P : Program} {φ : Emb} {t xt : TypeId} {want : Array (String × TypeId)} (ht : P.underlying t = some (.interface want)) (hz : zeroOf P t = some .nilIface) {ifs : List TypeId} {ok : Bool} {env : List AV} {y : AOpd} {v : AV} {x' : Value} (hx : VR φ (y.ev env) x')
    (hv : evalPure env (.assertIface (ifs.filter fun u => match P.info? u with | some i => (Instr.missingMethod want i.methods).isNone | none => false)
          (ifs.filter fun u => match P.info? u with | some i => (Instr.missingMethod want i.methods).isSome | none => false) ok y) = some v) (w : World) : ∃ v', (Instr.typeAssert x' xt t ok).run P w = .ok v' w ∧ VR φ v v' := by
  obtain ⟨zv, hz1, hz2⟩ := zeroOf_sound hz φ w
  obtain rfl := vr_nilIface hz2
  simp only [evalPure] at hv
  split at hv
  · rename_i ex
    rw [ex] at hx
    obtain rfl := vr_nilIface hx
    cases ok with
    | false => simp at hv
    | true =>
      simp at hv; subst hv
      exact ⟨.tuple #[.nilIface, .bool false], by unfold Instr.typeAssert; simp [run_und w ht, hz1], by simp only [VR]; exact ⟨_, rfl, VRs.cons (by simp [VR]) (VRs.cons (by simp [VR]) VRs.nil)⟩⟩
  · rename_i u a ex
    rw [ex] at hx
    obtain ⟨u', rfl, hu⟩ := vr_iface hx
    split at hv
    · rename_i hin
      simp at hv; subst hv
      simp only [List.contains_iff_mem, List.mem_filter] at hin
      obtain ⟨_, hm⟩ := hin
      cases e : P.info? u with
      | none => simp [e] at hm
      | some iu =>
        simp [e] at hm
        refine ⟨if ok then .tuple #[.iface u u', .bool true] else .iface u u', by unfold Instr.typeAssert; simp [run_und w ht, run_tinfo w e, hm], ?_⟩
        cases ok
        · simp only [Bool.false_eq_true, if_false, VR]; exact ⟨_, rfl, hu⟩
        · simp only [if_true, VR]; exact ⟨_, rfl, VRs.cons (by simp only [VR]; exact ⟨_, rfl, hu⟩) (VRs.cons (by simp [VR]) VRs.nil)⟩
    · split at hv
      · rename_i hin
        simp at hv; subst hv
        simp only [Bool.and_eq_true, List.contains_iff_mem, List.mem_filter] at hin
        obtain ⟨rfl, _, hm⟩ := hin
        cases e : P.info? u with
        | none => simp [e] at hm
        | some iu =>
          simp [e] at hm
          obtain ⟨m, hm⟩ := Option.isSome_iff_exists.1 hm
          exact ⟨.tuple #[.nilIface, .bool false], by unfold Instr.typeAssert; simp [run_und w ht, run_tinfo w e, hm, hz1], by simp only [VR]; exact ⟨_, rfl, VRs.cons (by simp [VR]) (VRs.cons (by simp [VR]) VRs.nil)⟩⟩
      · cases hv
  · cases hv

theorem str_index {t : ByteArray} {n : Int} {b : Nat} (h0 : 0 ≤ n) (h : (t.data.toList.map UInt8.toNat)[n.toNat]? = some b) : ∃ u, t[n.toNat]? = some u ∧ u.toNat = b := by
  rw [List.getElem?_map] at h
  cases e : t.data.toList[n.toNat]? with
  | none => simp [e] at h
  | some u =>
    simp [e] at h
    refine ⟨u, ?_, h⟩
    have hlt : n.toNat < t.size := by
      have := (List.getElem?_eq_some_iff.1 e).1
      simpa using this
    rw [getElem?_pos t n.toNat hlt]
    have := (List.getElem?_eq_some_iff.1 e).2
    rw [← this]
    rfl
end Go.Proofs.YtjihmonajekomaaGreatDoor.Ax
