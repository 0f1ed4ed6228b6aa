/- What a going over of offers finds: plain. -/
import Derived.Test.YtinkieogcpidkaaDoorOffP
namespace Go.Proofs.YtinkieogcpidkaaDoor
theorem scan_says {p : Offer → Bool} : ∀ (l : List Offer) (i b a : Int), b ≤ (scanTo p l i b a).1 ∧ (∀ o ∈ l, p o = true → o.2 ≤ (scanTo p l i b a).1) ∧ ((scanTo p l i b a).1 = b ∨ ∃ o ∈ l, p o = true ∧ o.2 = (scanTo p l i b a).1) ∧
    ((scanTo p l i b a).2 = a ∨ (i ≤ (scanTo p l i b a).2 ∧ (scanTo p l i b a).2 < i + l.length))
  | [], i, b, a => ⟨Int.le_refl _, (fun o h => by cases h), .inl rfl, .inl rfl⟩
  | x :: l, i, b, a => by
    by_cases hx : b < x.2 ∧ p x = true
    · obtain ⟨h1, h2, h3, h4⟩ := scan_says l (i + 1) x.2 i (p := p)
      rw [show scanTo p (x :: l) i b a = scanTo p l (i + 1) x.2 i by rw [scanTo, if_pos hx]]
      refine ⟨by omega, fun o ho hp => ?_, .inr ?_, .inr ?_⟩
      · rcases List.mem_cons.1 ho with rfl | ho
        · exact h1
        · exact h2 o ho hp
      · rcases h3 with h3 | ⟨o, ho, hp, e⟩
        · exact ⟨x, List.mem_cons_self .., hx.2, h3.symm⟩
        · exact ⟨o, List.mem_cons_of_mem _ ho, hp, e⟩
      · simp only [List.length_cons]
        omega
    · obtain ⟨h1, h2, h3, h4⟩ := scan_says l (i + 1) b a (p := p)
      rw [show scanTo p (x :: l) i b a = scanTo p l (i + 1) b a by rw [scanTo, if_neg hx]]
      refine ⟨h1, fun o ho hp => ?_, ?_, ?_⟩
      · rcases List.mem_cons.1 ho with rfl | ho
        · have : ¬ (b < o.2) := fun h => hx ⟨h, hp⟩
          omega
        · exact h2 o ho hp
      · rcases h3 with h3 | ⟨o, ho, hp, e⟩
        · exact .inl h3
        · exact .inr ⟨o, List.mem_cons_of_mem _ ho, hp, e⟩
      · simp only [List.length_cons]
        omega
end Go.Proofs.YtinkieogcpidkaaDoor
