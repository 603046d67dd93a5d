/- BridgeNone's example: true, over any memory. Conditions: none. -/
import Derived.Test.YtjihmonajekomaaGreatDoorB3
namespace Go.Proofs.YtjihmonajekomaaGreatDoor.Ax
open Go
section
variable {mt : Methods} {call : Callee} {k : Nat} {rd : Bool}
theorem acode_left {a a' c : ACode} (e : ∀ env h, acode mt call k rd a env h = acode mt call k rd a' env h) (env : List AV) (h : AH) : acode mt call k rd (.seq a c) env h = acode mt call k rd (.seq a' c) env h := by
  simp only [acode, e]
theorem acode_seq3 (a r b c : ACode) (env : List AV) (h : AH) : acode mt call k rd (.seq a (.seq (.seq r b) c)) env h = acode mt call k rd (.seq (.seq a r) (.seq b c)) env h := by
  rw [acode_assoc a (.seq r b) c, acode_left (fun env h => acode_assoc a r b env h), ← acode_assoc (.seq a r) b c]
theorem loop_exit {a : ACode} {n j : Nat} {env env' : List AV} {h h' : AH} (e : acode mt call k rd a env h = some (.exit j, env', h')) : loopN (acode mt call k rd a) (n + 1) env h = some (.exit j, env', h') := by
  simp only [loopN, e]
theorem block_loop {a : ACode} {id : Nat} {env env' : List AV} {h h' : AH} (e : loopN (acode mt call k rd a) k env h = some (.exit id, env', h')) : acode mt call k rd (.block id (.loop a)) env h = some (.normal, env', h') := by
  simp only [acode, e, if_true]
theorem acall_fn {F : FuncId → Option AFn} {T : Summary} {n : Nat} {f : FuncId} {fn : AFn} {args : List AV} {h : AH} (hT : T f = none) (hF : F f = some fn) : acall F T mt k (n + 1) (.fn f) args h = abody mt (acall F T mt k n) k fn args h := by
  simp only [acall, hT, hF]
theorem abody_ret {fn : AFn} {args env vs : List AV} {h h' : AH} (e : acode mt call k false fn.body (args ++ List.replicate (fn.ntmps - args.length) .undef) h = some (.ret, env, h')) (hv : resultsOf env h' fn.results = some vs) : abody mt call k fn args h = some (oneOrTuple vs, h') := by
  unfold abody
  rw [e]
  simp only [hv, Option.map]
end
namespace K
theorem body6 : ∃ p0 p1 p2 p3 p4 R, k6.body = .seq p0 (.seq p1 (.seq p2 (.seq p3 (.seq p4 (.seq (.seq R (.block 0 (.loop lb6))) rest6))))) ∧ pre6 = .seq (.seq (.seq (.seq (.seq p0 p1) p2) p3) p4) R := ⟨_, _, _, _, _, _, rfl, rfl⟩
theorem run6 : ((acall T6.get libS noMt 1000 61 (.fn 6) [] H0).map (·.1)) = some (.bool true) := by
  obtain ⟨⟨ex, en, hh⟩, e20, e20'⟩ := Option.map_eq_some_iff.1 it6_20
  simp only [Prod.mk.injEq] at e20'
  obtain ⟨rfl, rfl⟩ := e20'
  have hend := end6
  rw [e20] at hend
  simp only at hend
  have hloop : acode noMt C6 1000 false (.block 0 (.loop lb6)) be0 bh0 = some (.normal, en, bh20) := by
    refine block_loop ?_
    rw [loop_step it6_0, loop_step it6_1, loop_step it6_2, loop_step it6_3, loop_step it6_4, loop_step it6_5, loop_step it6_6, loop_step it6_7, loop_step it6_8, loop_step it6_9,
      loop_step it6_10, loop_step it6_11, loop_step it6_12, loop_step it6_13, loop_step it6_14, loop_step it6_15, loop_step it6_16, loop_step it6_17, loop_step it6_18, loop_step it6_19, loop_exit e20]
  have hbody : acode noMt C6 1000 false k6.body (List.replicate 49 .undef) H0 = acode noMt C6 1000 false rest6 en bh20 := by
    obtain ⟨p0, p1, p2, p3, p4, R, hb, hp⟩ := body6
    have hpre := pre6_0
    rw [hp] at hpre
    rw [hb, acode_assoc, acode_assoc, acode_assoc, acode_assoc, acode_seq3, acode_step hpre, acode_step hloop]
  split at hend
  · rename_i env' h' er
    obtain ⟨vs, hv1, hv2⟩ := Option.map_eq_some_iff.1 hend
    have hT : libS 6 = none := by simp [libS, extS]
    have hF : T6.get 6 = some k6 := by kernel_rfl
    have hr : k6.results = [(0, none)] := rfl
    have hn : ([] : List AV) ++ List.replicate (k6.ntmps - ([] : List AV).length) AV.undef = List.replicate 49 .undef := rfl
    have hab : abody noMt C6 1000 k6 [] H0 = some (oneOrTuple vs, h') := abody_ret (by rw [hn, hbody, er]) (by rw [hr, hv1])
    rw [acall_fn hT hF, show acall T6.get libS noMt 1000 60 = C6 from rfl, hab, hv2]
    rfl
  · cases hend
end K
theorem lives6 : ((acall (funcsOf Tryz.prog []) libS noMt 1000 61 (.fn 6) [] H0).map (·.1)) = some (.bool true) := by
  obtain ⟨r, h1, h2⟩ := Option.map_eq_some_iff.1 K.run6
  rw [acall_le K.T6_le libS noMt 1000 61 _ _ _ _ h1]
  exact congrArg some h2
end Go.Proofs.YtjihmonajekomaaGreatDoor.Ax
