/-
  The run of SnapshotNobody over the machine: in every world in which 'levels' and 'asciiSpace' hold what they are made with, the law answers true.
-/
import Derived.Test.YtalfgifleahabaaGreatDoorN2
import Derived.Test.YtalfgifleahabaaGreatDoorN3
import Derived.Test.YtalfgifleahabaaGreatDoorN4
import Derived.Test.YtalfgifleahabaaGreatDoorN5
import Derived.Test.YtalfgifleahabaaGreatDoorN6
import Derived.Test.YtalfgifleahabaaGreatDoorN7
import Derived.OpenShut
namespace Go.Proofs.YtalfgifleahabaaGreatDoor.sn
open Go Go.Ev Go.RowKit
set_option maxRecDepth 100000
set_option linter.unusedVariables false

theorem names : namesB Tryz.prog = true := by kernel_rfl
theorem mixed : Tryz.prog.follows .mixedOrders = true := by kernel_rfl
theorem sX {T : CallF} (hT : CSnd Tryz.prog T) : CSnd Tryz.prog (okX (evX Tryz.prog RR T 3000)) := (evX_snd (namesOk_of names) mixed hT 3000).1
theorem sT1 : CSnd Tryz.prog T1 := newT_snd (X := evX Tryz.prog RR noT 3000) (sX noT_snd) okWords (by decide) (by kernel_rfl) (by kernel_rfl)
theorem s51' : CSnd Tryz.prog T51 := tabO_snd (X := evX Tryz.prog RR T1 3000) (sX sT1) ok51
theorem s53' : CSnd Tryz.prog T53 := tabO_snd (X := evX Tryz.prog RR T1 3000) (sX sT1) ok53
theorem s52' : CSnd Tryz.prog T52 := tabO_snd (X := evX Tryz.prog RR T1 3000) (sX sT1) ok52
theorem s54' : CSnd Tryz.prog T54 := tabO_snd (X := evX Tryz.prog RR T1 3000) (sX sT1) ok54
theorem sTT : CSnd Tryz.prog TT := orT_snd sT1 (orT_snd s51' (orT_snd s53' (orT_snd s52' s54')))

theorem isT_spec {o : Option (Bool × Value × Hp)} (h : isT o = true) : ∃ h1, o = some (true, .bool true, h1) := by
  unfold isT at h
  split at h
  · rename_i b h1
    subst h
    exact ⟨h1, rfl⟩
  · cases h

theorem runs {B : Bs} {w0 W : World} {m : Pl} (s : Sim B w0 m h0 W) : ∃ h', Calls Tryz.prog 3 #[] W (Back B w0 m h0 (.bool true) h') := by
  obtain ⟨h1, he⟩ := isT_spec okLaw
  have hk : okX (evX Tryz.prog RR TT 3000) (.fn 3) [] h0 = some (.bool true, h1) := by unfold okX; rw [he]
  rcases (sX sTT).fn hk with ⟨_, q⟩ | ⟨_, ⟨t, x, e⟩, _⟩
  · exact ⟨h1, q B w0 m W [] s (.nil _)⟩
  · cases e

/-! ### The start -/
def levD : DataW Unit := .agg (levs.map fun l => .slice (l.map fun b => .lit (.string b)) [])
def ascD : DataW Unit := Lib.tabData .u8 ascZ

theorem g2 : Tryz.prog.globalNamed "seedbed/seedbedref02.levels" = some 2 := by kernel_rfl
theorem g8 : Tryz.prog.globalNamed "strings.asciiSpace" = some 8 := by kernel_rfl
theorem t2 : (Tryz.prog.globals[2]?).map (·.type) = some 469 := by kernel_rfl
theorem t8 : (Tryz.prog.globals[8]?).map (·.type) = some 666 := by kernel_rfl
theorem u469 : Tryz.prog.underlying 469 = some (.array 6 66) := by kernel_rfl
theorem u666 : Tryz.prog.underlying 666 = some (.array 256 5) := by kernel_rfl
theorem u66 : Tryz.prog.underlying 66 = some (.slice 9) := by kernel_rfl
theorem u9 : Tryz.prog.underlying 9 = some .string := by kernel_rfl
theorem u5 : Tryz.prog.underlying 5 = some (.int .u8) := by kernel_rfl
theorem c9 : Tryz.prog.cellsOf 9 = 1 := by kernel_rfl
theorem c66 : Tryz.prog.cellsOf 66 = 1 := by kernel_rfl
theorem c5 : Tryz.prog.cellsOf 5 = 1 := by kernel_rfl
theorem c469 : Tryz.prog.cellsOf 469 = 6 := by kernel_rfl
theorem c666 : Tryz.prog.cellsOf 666 = 256 := by kernel_rfl

theorem start {l : List (String × DataW Unit)} {W : World} (h1 : ("seedbed/seedbedref02.levels", levD) ∈ l) (h2 : ("strings.asciiSpace", ascD) ∈ l) (hL : laidMet Tryz.prog l W) : ∃ m, Sim (B0 W) W m h0 W := by
  obtain ⟨ps, hV, _⟩ := hL
  obtain ⟨g, t, cs, fuel, p, e1, e2, e3, e4⟩ := laidVars_get hV _ _ h1
  obtain rfl := Option.some.inj (g2.symm.trans e1)
  obtain rfl := Option.some.inj (t2.symm.trans e2)
  obtain ⟨g', t', cs', fuel', p', f1, f2, f3, f4⟩ := laidVars_get hV _ _ h2
  obtain rfl := Option.some.inj (g8.symm.trans f1)
  obtain rfl := Option.some.inj (t8.symm.trans f2)
  obtain ⟨ty, fz, hw⟩ := var_heap e1 e3
  obtain ⟨ty', fz', hw'⟩ := var_heap f1 f3
  have hasc : cs'.toList = asc := Lib.cells_of_tab (k := .u8) (zs := ascZ) u666 u5 c5 c666 f4
  obtain ⟨xs, mm, _, hx, hlen, hn, hel⟩ := DataW.trod_array u469 e4
  rw [c469] at hlen
  have hxs : xs.map (·.1) = levs.map fun l => (.slice (l.map fun b => .lit (.string b)) [] : DataW Unit) := by
    have := congrArg Prod.fst hx
    simp only [levD, DataW.agg.injEq] at this
    exact this.symm
  have htr : ∀ (i : Nat) l v, levs[i]? = some l → cs.toList[i]? = some v → ∃ fuel q, DataW.trod (fun _ => ()) Tryz.prog W 0 (fun _ => true) false fuel 66 [v] = some (.slice (l.map fun b => .lit (.string b)) [], q) := by
    intro i l v hl hv
    have hi : i < 6 := by
      have := (List.getElem?_eq_some_iff.1 hv).1
      omega
    have h3 := hel i hi
    rw [c66, Nat.mul_one] at h3
    have h4 : (cs.toList.drop i).take 1 = [v] := by
      rw [List.drop_eq_getElem_cons (by omega)]
      have := (List.getElem?_eq_some_iff.1 hv).2
      simp [this]
    rw [h4] at h3
    have h5 : (xs.map (·.1))[i]? = some (.slice (l.map fun b => .lit (.string b)) []) := by rw [hxs]; simp [hl]
    rw [List.getElem?_map] at h5
    obtain ⟨y, hy, hy1⟩ := Option.map_eq_some_iff.1 h5
    refine ⟨mm, y.2, ?_⟩
    rw [h3, hy, ← hy1]
  obtain ⟨m1, _, s1, n1, r1⟩ := adopt_strs u66 u9 c9 levs cs.toList (by rw [hlen]; rfl) (by decide) htr _ _ (sim_nil W) (fun i o hi => by simp at hi)
  obtain ⟨s2, n2⟩ := adopt_glob s1 n1 hw r1
  obtain ⟨s3, n3⟩ := adopt_glob s2 n2 hw' (c := asc) (by rw [hasc]; exact rels_ground (by kernel_rfl))
  exact ⟨_, by simpa [h0] using s3⟩

end Go.Proofs.YtalfgifleahabaaGreatDoor.sn
