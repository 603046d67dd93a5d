/- What the evaluator gives over some of the functions' texts, it gives over all. Conditions: as each theorem states. -/
import Derived.Test.YtjihmonajekomaaGreatDoorAx29
namespace Go.Proofs.YtjihmonajekomaaGreatDoor.Ax
open Go
set_option linter.unusedVariables false
set_option linter.unusedSectionVars false

def CLe (c c' : Callee) : Prop := ∀ t args h r, c t args h = some r → c' t args h = some r

section
variable {c c' : Callee} (hc : CLe c c') {mt : Methods}
include hc

theorem apply_le {f : AV} {args : List AV} {h : AH} {r : AV × AH} (e : apply c f args h = some r) : apply c' f args h = some r := by
  unfold apply at e ⊢
  split at e
  · exact hc _ _ _ _ e
  · exact hc _ _ _ _ e
  · cases e

theorem applyBody_le {f : AV} {args : List AV} {h : AH} {r : AV × AH} (e : applyBody c f args h = some r) : applyBody c' f args h = some r := by
  unfold applyBody at e ⊢
  split at e
  · exact hc _ _ _ _ e
  · cases e

theorem evalStrong_le {env : List AV} {h : AH} {o : AOp} {r : AV × AH} (e : evalStrong mt c env h o = some r) : evalStrong mt c' env h o = some r := by
  cases o
  case call f args => exact apply_le hc e
  case invoke rv name args =>
    simp only [evalStrong] at e ⊢
    split at e
    · rename_i t v ev
      obtain ⟨f, h1, h2⟩ := Option.bind_eq_some_iff.1 e
      rw [h1]
      exact hc _ _ _ _ h2
    · cases e
  all_goals exact e

theorem evalOp_le {env : List AV} {h : AH} {o : AOp} {r : AV × AH} (e : evalOp mt c env h o = some r) : evalOp mt c' env h o = some r := by
  unfold evalOp at e ⊢
  split at e
  · exact e
  · exact e
  · exact evalStrong_le hc e

theorem runOps_le : ∀ {l : List AOper} {env : List AV} {h : AH} {r : List AV × AH}, runOps mt c l env h = some r → runOps mt c' l env h = some r
  | [], env, h, r, e => e
  | o :: l, env, h, r, e => by
    simp only [runOps] at e ⊢
    split at e
    · rename_i hw
      rw [if_pos hw]
      split at e
      · rename_i v h' ev
        rw [evalOp_le hc ev]
        exact runOps_le e
      · cases e
    · rename_i hw
      rw [if_neg hw]
      exact runOps_le e

theorem runDraw_le : ∀ {l : List AOper} {env : List AV} {h : AH} {hs : List AH} {cs : List Chk} {r : List AV × AH × List AH × List Chk}, runDraw mt c l env h hs cs = some r → runDraw mt c' l env h hs cs = some r
  | [], env, h, hs, cs, r, e => e
  | o :: l, env, h, hs, cs, r, e => by
    simp only [runDraw] at e ⊢
    split at e
    · rename_i hw
      rw [if_pos hw]
      split at e
      · rename_i hk
        split at e
        · rename_i v ev
          exact runDraw_le e
        · cases e
      · rename_i hk
        split at e
        · rename_i v ev
          exact runDraw_le e
        · cases e
      · rename_i hk
        split at e
        · rename_i v h' ev
          simp only [evalStrong_le hc ev]
          exact runDraw_le e
        · cases e
    · rename_i hw
      rw [if_neg hw]
      exact runDraw_le e

theorem runRegion_le {ops : List AOper} {d : Bool} {env : List AV} {h : AH} {r : List AV × AH} (e : runRegion mt c ops d env h = some r) : runRegion mt c' ops d env h = some r := by
  unfold runRegion at e ⊢
  split at e
  · rename_i hd
    split at e
    · rename_i env' h' hs cs ev
      simp only [if_pos hd, runDraw_le hc ev]
      exact e
    · cases e
  · rename_i hd
    rw [if_neg hd]
    exact runOps_le hc e

theorem loopN_le {s s' : List AV → AH → Option (AExit × List AV × AH)} (hs : ∀ env h r, s env h = some r → s' env h = some r) : ∀ {n : Nat} {env : List AV} {h : AH} {r : AExit × List AV × AH}, loopN s n env h = some r → loopN s' n env h = some r
  | 0, env, h, r, e => e
  | n + 1, env, h, r, e => by
    simp only [loopN] at e ⊢
    split at e
    · rename_i ev; rw [hs _ _ _ ev]; exact loopN_le hs e
    · rename_i ev; rw [hs _ _ _ ev]; exact e
    · rename_i ev; rw [hs _ _ _ ev]; exact e
    · cases e

theorem acode_le (k : Nat) (rd : Bool) : ∀ {a : ACode} {env : List AV} {h : AH} {r : AExit × List AV × AH}, acode mt c k rd a env h = some r → acode mt c' k rd a env h = some r := by
  intro a
  induction a with
  | skip => intro env h r e; exact e
  | exit id => intro env h r e; exact e
  | ret => intro env h r e; exact e
  | region ops d =>
    intro env h r e
    simp only [acode] at e ⊢
    obtain ⟨x, h1, h2⟩ := Option.map_eq_some_iff.1 e
    rw [runRegion_le hc h1, ← h2]; rfl
  | seq a b iha ihb =>
    intro env h r e
    simp only [acode] at e ⊢
    split at e
    · rename_i ev; rw [iha ev]; exact ihb e
    · rename_i ev; rw [iha ev]; exact e
    · rename_i ev; rw [iha ev]; exact e
    · cases e
  | cond x a b iha ihb =>
    intro env h r e
    simp only [acode] at e ⊢
    split at e
    · rename_i t ev
      split at e
      · rename_i ht; rw [if_pos ht]; exact iha e
      · rename_i ht; rw [if_neg ht]; exact ihb e
    · cases e
  | block id a iha =>
    intro env h r e
    simp only [acode] at e ⊢
    cases ea : acode mt c k rd a env h with
    | none => rw [ea] at e; cases e
    | some x =>
      rw [ea] at e
      rw [iha ea]
      exact e
  | loop a iha =>
    intro env h r e
    simp only [acode] at e ⊢
    exact loopN_le hc (fun env h r e => iha e) e
  | rangeFunc f ps a b iha ihb =>
    intro env h r e
    simp only [acode] at e ⊢
    split at e
    · cases e
    · rename_i hrd
      rw [if_neg hrd]
      split at e
      · rename_i ev; rw [applyBody_le hc ev]; exact e
      · cases e

theorem abody_le {k : Nat} {fn : AFn} {args : List AV} {h : AH} {r : AV × AH} (e : abody mt c k fn args h = some r) : abody mt c' k fn args h = some r := by
  unfold abody at e ⊢
  split at e
  · rename_i ev; rw [acode_le hc k false ev]; exact e
  · rename_i ev; rw [acode_le hc k false ev]; exact e
  · cases e

theorem around_le {k l : Nat} {args : List AV} {h : AH} {r : AV × AH} (e : around mt c k l args h = some r) : around mt c' k l args h = some r := by
  unfold around at e ⊢
  split at e
  · rename_i tmps params assign body hl
    split at e
    · rename_i hlen
      rw [if_pos hlen]
      split at e
      · rename_i env1 h1 ev
        rw [acode_le hc k true ev]
        simp only
        split at e
        · rename_i pd tm ps as bd hg
          split at e
          · rename_i ex en h3 ev3
            rw [acode_le hc k true ev3]
            exact e
          · cases e
        · cases e
      · cases e
    · cases e
  · cases e
end

/-- THE EVALUATOR OVER SOME OF THE FUNCTIONS. -/
theorem acall_le {F F' : FuncId → Option AFn} (hF : ∀ f a, F f = some a → F' f = some a) (T : Summary) (mt : Methods) (k : Nat) : ∀ n, CLe (acall F T mt k n) (acall F' T mt k n)
  | 0 => fun t args h r e => by simp [acall] at e
  | n + 1 => fun t args h r e => by
    have ih := acall_le hF T mt k n
    cases t with
    | fn f =>
      simp only [acall] at e ⊢
      split at e
      · exact e
      · split at e
        · cases e
        · rename_i fn hfn
          rw [hF _ _ hfn]
          exact abody_le ih e
    | body f =>
      simp only [acall] at e ⊢
      split at e
      · cases e
      · rename_i fn hfn
        rw [hF _ _ hfn]
        exact abody_le ih e
    | yield l =>
      simp only [acall] at e ⊢
      exact around_le ih e

/-! ### A table of functions' texts -/
inductive Tbl where
  | leaf
  | node (k : Nat) (v : AFn) (l r : Tbl)
def Tbl.get : Tbl → Nat → Option AFn
  | .leaf, _ => none
  | .node k v l r, f => cond (Nat.beq f k) (some v) (cond (Nat.ble f k) (l.get f) (r.get f))
def Tbl.All (Q : Nat → AFn → Prop) : Tbl → Prop
  | .leaf => True
  | .node k v l r => Q k v ∧ l.All Q ∧ r.All Q
theorem Tbl.get_all {Q : Nat → AFn → Prop} : ∀ {t : Tbl} {f : Nat} {a : AFn}, t.All Q → t.get f = some a → Q f a
  | .leaf, f, a, _, e => by cases e
  | .node k v l r, f, a, hq, e => by
    obtain ⟨h1, h2, h3⟩ := hq
    unfold Tbl.get at e
    cases hb : Nat.beq f k with
    | true =>
      rw [hb] at e
      simp only [cond_true, Option.some.injEq] at e
      subst e
      rw [Nat.eq_of_beq_eq_true hb]
      exact h1
    | false =>
      rw [hb] at e
      simp only [cond_false] at e
      cases hl : Nat.ble f k with
      | true => rw [hl] at e; exact Tbl.get_all h2 e
      | false => rw [hl] at e; exact Tbl.get_all h3 e

namespace K
def t (n : Nat) : AOpd := .tmp n
def v (x : AV) : AOpd := .val x
def p (d : Nat) (o : AOp) : AOper := ⟨some d, o, none, [], 0, 0, false⟩
def q (o : AOp) : AOper := ⟨none, o, none, [], 0, 0, false⟩
def g (d s : Nat) (b : Bool) (o : AOp) : AOper := ⟨some d, o, some (s, b), [], 0, 0, false⟩
def a (x y : ACode) : ACode := .seq x y
def c (x : AOpd) (y z : ACode) : ACode := .cond x y z
def r (l : List AOper) : ACode := .region l false
def z (l : List AOper) : ACode := .region l true
def Y : AV := .bool true
def B : AV := .bool false
def O : AV := .int .i64 0
def I (n : Int) : AV := .int .i64 n
def E : AV := .str []
def S (l : List Nat) : AV := .str l
def N : AV := .ptr none
def L : AV := .slice none 0 0 0
def G (f : Nat) : AV := .func (.func f) [] []
def u (x : AV) : Option AV := some x
def w (n : Int) : Option AV := some (.int .u8 n)
end K

/-! ### A run in parts -/
section
variable {mt : Methods} {call : Callee} {k : Nat} {rd : Bool}
theorem acode_assoc (a b c : ACode) (env : List AV) (h : AH) : acode mt call k rd (.seq a (.seq b c)) env h = acode mt call k rd (.seq (.seq a b) c) env h := by
  simp only [acode]
  cases acode mt call k rd a env h with
  | none => rfl
  | some r =>
    obtain ⟨ex, e, h'⟩ := r
    cases ex <;> rfl
theorem acode_step {a b : ACode} {env env' : List AV} {h h' : AH} (e : acode mt call k rd a env h = some (.normal, env', h')) : acode mt call k rd (.seq a b) env h = acode mt call k rd b env' h' := by
  simp only [acode, e]
theorem loop_step {a : ACode} {n : Nat} {env env' : List AV} {h h' : AH} (e : acode mt call k rd a env h = some (.normal, env', h')) : loopN (acode mt call k rd a) (n + 1) env h = loopN (acode mt call k rd a) n env' h' := by
  simp only [loopN, e]
end
end Go.Proofs.YtjihmonajekomaaGreatDoor.Ax
