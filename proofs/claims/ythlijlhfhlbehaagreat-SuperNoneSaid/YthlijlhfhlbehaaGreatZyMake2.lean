/- A text's bytes as a new slice. -/
import Derived.Test.YthlijlhfhlbehaaGreatZyMake
import Derived.Laws.IdiomStrings
set_option linter.unusedSimpArgs false
set_option linter.unusedVariables false
namespace Go.Zy
section
variable {P : Program} {ρ : Nm} {σ : Im} {vm lm : List Nat} {vs ls : List AVal} {a : Operand → Value} {C : CallK} {h : Heap} {K : AVal → Heap → Prop}

theorem bytesRow_list (s : List UInt8) (cap : Nat) : (bytesRow ⟨⟨s⟩⟩ cap).toList = s.map (fun b => Value.int .u8 (b.toNat : Int)) ++ List.replicate (cap - s.length) (.int .u8 0) := by
  unfold bytesRow
  simp only [Array.toList_append, Array.toList_map, Array.toList_replicate]
  congr 2

theorem make_s2b {s d e : TypeId} {x : Operand} {y : Opd} (he : Env ρ σ vm lm vs ls a) (hc : opdOk vm lm x y = true) (hs : P.underlying s = some .string) (hd : P.underlying d = some (.slice e)) (hu : P.underlying e = some (.int .u8))
    (H : opK C vs ls h (.s2b y) K) : ∃ obj v, K v (h.new obj) ∧ Makes P ρ σ a (.convert s d x) h.next obj v := by
  simp only [opK, ev_eq] at H
  have hr := he _ _ hc
  generalize opdV vs ls y = v at H hr
  obtain ⟨l, rfl, H⟩ : ∃ l, v = .str l ∧ bytesK l (fun cs => h.newK (.row cs) fun id h => fN l.length fun n => K (.slice id 0 n none 1) h) := by
    cases v <;> first | exact ⟨_, rfl, H⟩ | exact H.elim
  replace H := bytesK_inv H
  rw [Heap.newK_eq, fN_eq] at H
  have hx := hr.str_inv
  refine ⟨_, _, H, fun w => ?_⟩
  have hsz : (⟨⟨l⟩⟩ : ByteArray).size = l.length := rfl
  have hge := grownCap_ge w l.length 0 e
  refine ⟨.slice (some ⟨w.heap.size, 0, none⟩) l.length (grownCap w l.length 0 e), _, (bytesRow ⟨⟨l⟩⟩ (grownCap w l.length 0 e)).size, w.drew.alloc (.cells (bytesRow ⟨⟨l⟩⟩ (grownCap w l.length 0 e)) e ((bytesRow ⟨⟨l⟩⟩ (grownCap w l.length 0 e)).size, (bytesRow ⟨⟨l⟩⟩ (grownCap w l.length 0 e)).size + 1)), ⟨rfl, rfl, rfl, rfl⟩, ?_, ?_⟩
  · intro r hr'
    have := run_bytes_of_string (P := P) w s d e ⟨⟨l⟩⟩ hs hd hu
    rw [hsz] at this
    simp only [execOp, hr', hx, Sem.run_bind, this, Result.andThen_ok, Sem.run_pure]
  · intro ρ' hsub hρ
    have hlen : (bytesRow ⟨⟨l⟩⟩ (grownCap w l.length 0 e)).size = grownCap w l.length 0 e := by
      rw [← Array.length_toList, bytesRow_list]; simp; omega
    refine ⟨VRel.slice (o := 0) hρ (fun k hk => by cases hk) hge (fun _ => by simp) (by rw [hlen]; omega), _, e, _, _, rfl, rfl, by rw [hlen]; simp; omega, .inr (Nat.le_refl _), ?_⟩
    intro i v hv
    rw [List.getElem?_map] at hv
    cases hli : l[i]? with
    | none => rw [hli] at hv; cases hv
    | some b =>
      rw [hli] at hv; cases hv
      refine ⟨.int .u8 (b.toNat : Int), ?_, .int _ _⟩
      rw [Nat.zero_add, ← Array.getElem?_toList, bytesRow_list, List.getElem?_append_left (by simp; exact (List.getElem?_eq_some_iff.1 hli).1), List.getElem?_map, hli]
      rfl
end
end Go.Zy
