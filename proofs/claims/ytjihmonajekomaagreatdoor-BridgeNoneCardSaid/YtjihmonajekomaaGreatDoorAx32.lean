/- Calls on values without places, and runs of the evaluator, whatever is chosen. Conditions: as each theorem states. -/
import Derived.Test.YtjihmonajekomaaGreatDoorAx26
import Derived.Test.YtjihmonajekomaaGreatDoorAx31
namespace Go.Proofs.YtjihmonajekomaaGreatDoor.Ax
open Go Go.RowKit
set_option linter.unusedVariables false

section
variable {P : Program} {ifs : List TypeId} {T : Summary} {mt : Methods}

/-- A value without a place, or a struct of such. -/
def noPlA : AV → Bool
  | .agg cs => cs.all noPlace
  | a => noPlace a

theorem noPlA_vr {φ φ' : Emb} {a : AV} {v : Value} (h : noPlA a = true) (hv : VR φ a v) : VR φ' a v := by
  cases a
  case agg cs =>
    simp only [VR] at hv ⊢
    obtain ⟨cs', h1, h2⟩ := hv
    exact ⟨cs', h1, noPlaces_vr (by simpa [noPlA] using h) h2⟩
  all_goals exact noPlace_vr (by simpa [noPlA] using h) hv

theorem noPlAs_vr {φ φ' : Emb} : ∀ {l : List AV} {vs : List Value}, l.all noPlA = true → VRs φ l vs → VRs φ' l vs
  | [], vs, _, hv => by simpa only [VRs] using hv
  | a :: l, vs, h, hv => by
    simp only [List.all_cons, Bool.and_eq_true] at h
    simp only [VRs] at hv ⊢
    obtain ⟨v, r, rfl, h1, h2⟩ := hv
    exact ⟨v, r, rfl, noPlA_vr h.1 h1, noPlAs_vr h.2 h2⟩

theorem NCall.freshA (hT : SumSound P ifs T) (hmt : MtOk P mt) (hmix : P.follows .mixedOrders = true) {k n : Nat} {f : FuncId} {args : List AV} {v : AV} (ha : args.all noPlA = true) (hv : noPlA v = true)
    (e : ((acall (funcsOf P ifs) T mt k n (.fn f) args H0).map (·.1)) = some v) {h : AH} {Q : AV → AH → Prop} (q : Q v h) : NCall P ifs (.fn f) args h Q := by
  obtain ⟨⟨v1, h1⟩, e1, e2⟩ := Option.map_eq_some_iff.1 e
  simp only at e2
  subst e2
  intro φ w0 w vs hvs hr
  rcases (acall_sound hT hmt hmix k n).fn f args H0 _ h1 e1 φ00 w w vs (noPlAs_vr ha hvs) (Rel.init P ifs w) with ⟨g1, g2⟩ | ⟨v', w', φ', g1, g2, g3, g4⟩
  · refine .inl ⟨g1, Calls.mono g2 fun e w' ⟨v', φ', k1, k2, k3, k4⟩ => ?_⟩
    obtain ⟨r1, r2⟩ := hr.beyond k3.below
    exact ⟨_, h, v', φ, q, k1, noPlA_vr hv k2, r1, r2⟩
  · obtain ⟨r1, r2⟩ := hr.beyond g3.below
    exact .inr ⟨_, h, v', w', φ, q, g1, noPlA_vr hv g2, r1, r2⟩

/-- A call on values without places gives one value, whatever the memory, and leaves it. -/
theorem NCall.freshW (hT : SumSound P ifs T) (hmt : MtOk P mt) (hmix : P.follows .mixedOrders = true) {f : FuncId} {args : List AV} (ha : args.all noPlA = true) {Q0 : AV → Prop}
    (hw : WCall ⟨funcsOf P ifs, T, mt⟩ (.fn f) args H0 fun v _ => noPlA v = true ∧ Q0 v) : ∃ v, Q0 v ∧ ∀ (h : AH) (Q : AV → AH → Prop), Q v h → NCall P ifs (.fn f) args h Q := by
  obtain ⟨k, n, v, h', e, q1, q2⟩ := hw.run
  exact ⟨v, q2, fun h Q q => NCall.freshA hT hmt hmix ha q1 (by rw [e]; rfl) q⟩

theorem NCall.ofRun (hT : SumSound P ifs T) (hmt : MtOk P mt) (hmix : P.follows .mixedOrders = true) {k n : Nat} {f : FuncId} {args : List AV} {v : AV} {h h' : AH} (e : acall (funcsOf P ifs) T mt k n (.fn f) args h = some (v, h')) {Q : AV → AH → Prop} (q : Q v h') : NCall P ifs (.fn f) args h Q := by
  intro φ w0 w vs hvs hr
  rcases (acall_sound hT hmt hmix k n).fn f args h v h' e φ w0 w vs hvs hr with ⟨h1, h2⟩ | ⟨v', w', φ', h1, h2, h3, h4⟩
  · exact .inl ⟨h1, Calls.mono h2 fun e w' ⟨v', φ', k1, k2, k3, k4⟩ => ⟨v, h', v', φ', q, k1, k2, k3, k4⟩⟩
  · exact .inr ⟨v, h', v', w', φ', q, h1, h2, h3, h4⟩

theorem NCode.ofRun (hT : SumSound P ifs T) (hmt : MtOk P mt) (hmix : P.follows .mixedOrders = true) {k n : Nat} {ac : ACode} {env env' : List AV} {h h' : AH} {ex : AExit} (e : acode mt (acall (funcsOf P ifs) T mt k n) k false ac env h = some (ex, env', h')) {Q : AExit → List AV → AH → Prop} (q : Q ex env' h') : NCode P ifs ac env h Q := by
  intro c hc φ w0 w a hE hr R hR
  exact code_wp (acall_sound hT hmt hmix k n) hmt hmix k none c ac hc env h ex env' h' e φ w a hE hr R fun φ' w' a' q1 q2 q3 q4 => hR _ _ _ _ _ _ q q1 q2 q3 q4
end
end Go.Proofs.YtjihmonajekomaaGreatDoor.Ax
