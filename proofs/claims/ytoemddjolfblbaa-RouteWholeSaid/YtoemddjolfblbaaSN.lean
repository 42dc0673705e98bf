/- The law RouteWhole at its call: true for every slice of parts and every two stretches. -/
import Derived.Test.YtoemddjolfblbaaSL
import Derived.Test.YtoemddjolfblbaaSM
/- The law RouteWhole. -/
set_option linter.unusedVariables false
namespace Go.Proofs.Ytoemddjolfblbaa
open Go.RowKit Go.Proofs.YtoemddjolfblbaaW.PrintWords

theorem whole_any (A : Option Addr) (c : Nat) (l : List Part) (f m_ t : ByteArray) (w : World) (hr : Kd.C kP w A l.length l) (hc : l.length ≤ c) :
    Calls Try.prog 6 #[.slice A l.length c, .string f, .string m_, .string t] w (TrueB w) := by
  rcases Bool.eq_false_or_eq_true (lightB l) with hi | hi
  · by_cases hz : f.size ≤ 32
    · by_cases hy : m_.size ≤ 32
      · by_cases hx : t.size ≤ 32
        · rcases Bool.eq_false_or_eq_true (rightB l) with hR | hR
          · rcases Bool.eq_false_or_eq_true (belowB f m_) with q1 | q1
            · rcases Bool.eq_false_or_eq_true t.toList.isEmpty with q2 | q2
              · exact whole_yesE A c l f m_ t w hr hc hi (light_sizes hi).1 hz hy hx hR q1 q2
              · rcases Bool.eq_false_or_eq_true (belowB m_ t) with q3 | q3
                · exact whole_yesL A c l f m_ t w hr hc hi (light_sizes hi).1 hz hy hx hR q1 q2 q3
                · exact whole_no2 A c l f m_ t w hr hc hi (light_sizes hi).1 hz hy hx hR q1 q2 q3
            · exact whole_no1 A c l f m_ t w hr hc hi (light_sizes hi).1 hz hy hx hR q1
          · exact whole_out A c l f m_ t w hr hc (.inr (.inr (.inr (.inr hR))))
        · exact whole_out A c l f m_ t w hr hc (.inr (.inr (.inr (.inl (by omega)))))
      · exact whole_out A c l f m_ t w hr hc (.inr (.inr (.inl (by omega))))
    · exact whole_out A c l f m_ t w hr hc (.inr (.inl (by omega)))
  · exact whole_out A c l f m_ t w hr hc (.inl hi)
end Go.Proofs.Ytoemddjolfblbaa
