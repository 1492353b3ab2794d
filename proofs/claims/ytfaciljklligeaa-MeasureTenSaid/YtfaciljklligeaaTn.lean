/- MeasureTen: the walk. -/
import Derived.Test.YtfaciljklligeaaTm
namespace Go.Proofs.Ytfaciljklligeaa.Ct
open Go.ChangeShapes Go.WideShapes Go.RowKit Mm
section
variable (w : World) {x y : Nat}
/-- a test says no -/
theorem ten8_no (h : (oF x 148827732767309341 ≠ some .gt) ∨ (oF x 148827732767309341 = some .gt ∧ oF x 9094988921128908188 ≠ some .lt) ∨
    (oF x 148827732767309341 = some .gt ∧ oF x 9094988921128908188 = some .lt ∧ oF y 148827732767309341 ≠ some .gt) ∨
    (oF x 148827732767309341 = some .gt ∧ oF x 9094988921128908188 = some .lt ∧ oF y 148827732767309341 = some .gt ∧ oF y 9094988921128908188 ≠ some .lt)) :
    Calls Try.prog 8 #[.float .f64 x, .float .f64 y] w (AwPost w) := by
  unfold oF at h
  rcases h with h | ⟨h1, h⟩ | ⟨h1, h2, h⟩ | ⟨h1, h2, h3, h⟩
  · rcases e : FloatKind.f64.format.order x 148827732767309341 with _ | o
    · clear h
      go_enter Try.func8, Try.ntmps8
      go_wp2_with fail
      refine (awake12 _).mono ?_
      rintro e w1 ⟨rfl, O1⟩
      replace O1 := Lib.hid O1
      go_wp2_with fail
      go_ret
      exact ⟨rfl, O1.out⟩
    · rcases o with _ | _ | _
      · clear h
        go_enter Try.func8, Try.ntmps8
        go_wp2_with fail
        refine (awake12 _).mono ?_
        rintro e w1 ⟨rfl, O1⟩
        replace O1 := Lib.hid O1
        go_wp2_with fail
        go_ret
        exact ⟨rfl, O1.out⟩
      · clear h
        go_enter Try.func8, Try.ntmps8
        go_wp2_with fail
        refine (awake12 _).mono ?_
        rintro e w1 ⟨rfl, O1⟩
        replace O1 := Lib.hid O1
        go_wp2_with fail
        go_ret
        exact ⟨rfl, O1.out⟩
      · exact absurd e h
  · rcases e : FloatKind.f64.format.order x 9094988921128908188 with _ | o
    · clear h
      go_enter Try.func8, Try.ntmps8
      go_wp2_with fail
      refine (awake12 _).mono ?_
      rintro e w1 ⟨rfl, O1⟩
      replace O1 := Lib.hid O1
      go_wp2_with fail
      go_ret
      exact ⟨rfl, O1.out⟩
    · rcases o with _ | _ | _
      · exact absurd e h
      · clear h
        go_enter Try.func8, Try.ntmps8
        go_wp2_with fail
        refine (awake12 _).mono ?_
        rintro e w1 ⟨rfl, O1⟩
        replace O1 := Lib.hid O1
        go_wp2_with fail
        go_ret
        exact ⟨rfl, O1.out⟩
      · clear h
        go_enter Try.func8, Try.ntmps8
        go_wp2_with fail
        refine (awake12 _).mono ?_
        rintro e w1 ⟨rfl, O1⟩
        replace O1 := Lib.hid O1
        go_wp2_with fail
        go_ret
        exact ⟨rfl, O1.out⟩
  · rcases e : FloatKind.f64.format.order y 148827732767309341 with _ | o
    · clear h
      go_enter Try.func8, Try.ntmps8
      go_wp2_with fail
      refine (awake12 _).mono ?_
      rintro e w1 ⟨rfl, O1⟩
      replace O1 := Lib.hid O1
      go_wp2_with fail
      go_ret
      exact ⟨rfl, O1.out⟩
    · rcases o with _ | _ | _
      · clear h
        go_enter Try.func8, Try.ntmps8
        go_wp2_with fail
        refine (awake12 _).mono ?_
        rintro e w1 ⟨rfl, O1⟩
        replace O1 := Lib.hid O1
        go_wp2_with fail
        go_ret
        exact ⟨rfl, O1.out⟩
      · clear h
        go_enter Try.func8, Try.ntmps8
        go_wp2_with fail
        refine (awake12 _).mono ?_
        rintro e w1 ⟨rfl, O1⟩
        replace O1 := Lib.hid O1
        go_wp2_with fail
        go_ret
        exact ⟨rfl, O1.out⟩
      · exact absurd e h
  · rcases e : FloatKind.f64.format.order y 9094988921128908188 with _ | o
    · clear h
      go_enter Try.func8, Try.ntmps8
      go_wp2_with fail
      refine (awake12 _).mono ?_
      rintro e w1 ⟨rfl, O1⟩
      replace O1 := Lib.hid O1
      go_wp2_with fail
      go_ret
      exact ⟨rfl, O1.out⟩
    · rcases o with _ | _ | _
      · exact absurd e h
      · clear h
        go_enter Try.func8, Try.ntmps8
        go_wp2_with fail
        refine (awake12 _).mono ?_
        rintro e w1 ⟨rfl, O1⟩
        replace O1 := Lib.hid O1
        go_wp2_with fail
        go_ret
        exact ⟨rfl, O1.out⟩
      · clear h
        go_enter Try.func8, Try.ntmps8
        go_wp2_with fail
        refine (awake12 _).mono ?_
        rintro e w1 ⟨rfl, O1⟩
        replace O1 := Lib.hid O1
        go_wp2_with fail
        go_ret
        exact ⟨rfl, O1.out⟩
end
set_option maxHeartbeats 1600000 in
theorem ten8_yes (w : World) {x y x' r r' q z1 z2 s : Nat} (F : TenFacts x y x' r r' q z1 z2 s) (x1 : oF x 148827732767309341 = some .gt) (x2 : oF x 9094988921128908188 = some .lt) (y1 : oF y 148827732767309341 = some .gt) (y2 : oF y 9094988921128908188 = some .lt) :
    Calls Try.prog 8 #[.float .f64 x, .float .f64 y] w (AwPost w) := by
  obtain ⟨h1, l1, l2, l3, h2, h3, o1, o2, h4, o3, d1, d2, d3⟩ := F
  have c1 := Lib.hid (fun w => dec26 l1 w)
  have c2 := Lib.hid (fun w => dec26 l2 w)
  have c3 := Lib.hid (fun w => dec26 l3 w)
  replace d1 := Lib.hid d1
  replace d2 := Lib.hid d2
  replace d3 := Lib.hid d3
  replace h1 := h1.run
  replace h2 := h2.run
  replace h3 := h3.run
  replace h4 := h4.run
  clear l1 l2 l3
  generalize decP r = D at *
  generalize decP r' = D' at *
  generalize decP q = E at *
  unfold oF at x1 x2 y1 y2
  unfold W10 C3 N3 at *
  have o1 : FloatKind.f64.format.order z2 4479327984896590303 = some .lt := o1
  have o2 : FloatKind.f64.format.order z2 13702700021751366111 = some .gt := o2
  have o3 : FloatKind.f64.format.order x y = some .gt ∨ (FloatKind.f64.format.order x y = some .lt ∨ FloatKind.f64.format.order x y = some .eq) ∧ FloatKind.f64.format.order E s = some .lt := o3
  rcases o3 with o3 | ⟨o3 | o3, o4⟩
  all_goals
    go_enter Try.func8, Try.ntmps8
    go_wp2_with fail
    refine (awake12 _).mono ?_
    rintro e w1 ⟨rfl, O1⟩
    replace O1 := Lib.hid O1
    go_wp2_with fail
    refine (c1.out _).mono ?_
    rintro e w2 ⟨a, d, ha, rfl, rfl⟩
    obtain rfl : a = D := nz ha d1.out
    replace O1 := Lib.hid (O1.out.drewN d)
    generalize w1.drewN d = w2 at *
    clear ha c1
    go_wp2_with fail
    refine (c2.out _).mono ?_
    rintro e w3 ⟨a2, d, ha, rfl, rfl⟩
    obtain rfl : a2 = D' := nz ha d2.out
    replace O1 := Lib.hid (O1.out.drewN d)
    generalize w2.drewN d = w3 at *
    clear ha c2
    go_wp2_with fail
  · go_ret
    exact ⟨rfl, O1.out⟩
  all_goals
    refine (c3.out _).mono ?_
    rintro e w4 ⟨a3, d, ha, rfl, rfl⟩
    obtain rfl : a3 = E := nz ha d3.out
    replace O1 := Lib.hid (O1.out.drewN d)
    generalize w3.drewN d = w4 at *
    clear ha c3
    go_wp2_with fail
    go_ret
    exact ⟨rfl, O1.out⟩
theorem ten8 (w : World) {x y : Nat} (hx : x < 2 ^ 64) (hy : y < 2 ^ 64) : Calls Try.prog 8 #[.float .f64 x, .float .f64 y] w (AwPost w) := by
  by_cases h1 : oF x 148827732767309341 = some .gt
  · by_cases h2 : oF x 9094988921128908188 = some .lt
    · by_cases h3 : oF y 148827732767309341 = some .gt
      · by_cases h4 : oF y 9094988921128908188 = some .lt
        · obtain ⟨x', r, r', q, z1, z2, s, F⟩ := ten_facts hx hy h1 h2 h3 h4
          exact ten8_yes w F h1 h2 h3 h4
        · exact ten8_no w (.inr (.inr (.inr ⟨h1, h2, h3, h4⟩)))
      · exact ten8_no w (.inr (.inr (.inl ⟨h1, h2, h3⟩)))
    · exact ten8_no w (.inr (.inl ⟨h1, h2⟩))
  · exact ten8_no w (.inl h1)
end Go.Proofs.Ytfaciljklligeaa.Ct
