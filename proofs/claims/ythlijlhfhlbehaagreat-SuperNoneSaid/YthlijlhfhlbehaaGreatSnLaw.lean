/- SuperNone: the law's row, from its run. -/
import Derived.Test.YthlijlhfhlbehaaGreatRows
import Derived.Test.YthlijlhfhlbehaaGreatChecked
import Derived.Test.YthlijlhfhlbehaaGreatSnTab
import Derived.Test.YthlijlhfhlbehaaGreatSnHeads
import Derived.Test.YthlijlhfhlbehaaGreatSnRun
import Derived.HandedShaped
import Derived.WalkKit
import Derived.ProofKit
namespace Go.Proofs.YthlijlhfhlbehaaGreat
open Go.ChangeShapes Go.WideShapes Go.ChangeAt Go.RowKit Go.Zy
set_option maxRecDepth 1000000

theorem own : ownKnob Tryz.prog.godebug = none := by kernel_rfl

theorem calls_run {P : Program} {σ : Im} {T : FuncId → Option EFunc} (hT : ∀ fid F, T fid = some F → funcOk P fid F.vm F = true) {S : CallK → CallK → CallK}
    (hS : ∀ C base : CallK, (∀ f args h K, C f args h K → CallBoth P σ f args h K) → (∀ f args h K, base f args h K → CallBoth P σ f args h K) → ∀ f args h K, S C base f args h K → CallBoth P σ f args h K)
    {fuel d : Nat} {f : AVal} {args : List AVal} {h : Heap} {K : AVal → Heap → Prop} (hr : call T S fuel d f args h K = (true = true)) : CallBoth P σ f args h K :=
  calls_sound T hT S hS fuel d f args h K (hr ▸ rfl)
theorem isT_eq {v : AVal} (e : S.isT v = true) : v = .bool true := by
  cases v with
  | bool b => cases b with
    | true => rfl
    | false => cases e
  | _ => cases e
theorem isT_eq' {v : AVal} (e : S.isT' v = true) : v = .bool true := by
  cases v with
  | bool b => cases b with
    | true => rfl
    | false => cases e
  | _ => cases e
theorem heads (σ : Im) : CallBoth Tryz.prog σ (.func (.func 55) [] []) [] Heap.empty fun v _ => v = .bool true := by
  have h := calls_run (P := Tryz.prog) (σ := σ) S.hT (withExt_sound S.hX) S.run55
  exact ⟨h.1.mono fun _ _ e => isT_eq e, fun i => (h.2 i).mono fun _ _ e => isT_eq e⟩

theorem runs (σ : Im) (e p g c z slot : Int) : CallSem Tryz.prog σ (.func (.func 9) [] []) [.agg [.int .u64 e, .int .i64 p, .int .u64 g, .int .i64 c, .int .i64 z], .int .i64 slot] Heap.empty fun v _ => v = .bool true := by
  have h := calls_run (P := Tryz.prog) (σ := σ) S.hT (known_sound (heads σ) (withExt_sound S.hX)) (S.run9 e p g c z slot)
  exact h.1.mono fun _ _ e => isT_eq' e

def tys : List Ty := [.struct (.scons (.int .u64) (.scons (.struct (.scons (.int .i64) (.scons (.int .u64) (.scons (.int .i64) (.scons (.int .i64) .snil))))) .snil)), .int .i64]

theorem law (H : Type) (σ : Im) (ds : List (DataW H)) (h : wfAll tys ds) : CallSem Tryz.prog σ (.func (.func 9) [] []) (encAll tys ds) Heap.empty fun v _ => v = .bool true := by
  match ds, h with
  | [.agg [.lit (.int _ e), .agg [.lit (.int _ p), .lit (.int _ g), .lit (.int _ c), .lit (.int _ z)]], .lit (.int _ slot)], h =>
    have h' := h
    simp only [wfAll, tys, wfD, and_true] at h'
    obtain ⟨⟨⟨rfl, _⟩, ⟨rfl, _⟩, ⟨rfl, _⟩, ⟨rfl, _⟩, ⟨rfl, _⟩⟩, ⟨rfl, _⟩⟩ := h'
    exact runs σ e p g c z slot

def isCells : Option Obj → Bool
  | some (.cells _ _ _) => true
  | _ => false
theorem shaped_cells {P : Program} {W : World} (hg : Nat.blt P.globals.size (begin P (fun _ _ => 0) default).world.heap.size = true) (hs : isCells (begin P (fun _ _ => 0) default).world.heap[P.globals.size]? = true) (h : W.ShapedOpen P) :
    ∃ (b : Nat) (c : Array Value) (x : TypeId) (y : Nat × Nat), W.heap[b]? = some (Obj.cells c x y) := by
  have hg' : P.globals.size < (begin P (fun _ _ => 0) default).world.heap.size := by simpa [Nat.blt_eq] using hg
  obtain ⟨o, o', h1, h2, h3⟩ := h.2 P.globals.size (Nat.le_refl _) hg'
  rw [show World.looseAt (P.globals.size - P.globals.size) = false by rw [Nat.sub_self]; rfl, if_neg (by simp)] at h3
  subst h3
  rw [h2] at hs
  cases o with
  | cells c x y => exact ⟨_, _, _, _, h1⟩
  | _ => cases hs

theorem lifted (os : Os) (started : os.Started) (H : Type) (enc : TypeId × Value → H) :
    ReturnsInHanded {} Tryz.checked os 9 .any (Rows.superNoneSpec.pre6 enc Tryz.prog Tryz.f9 Rows.superNoneRow.domain false) (Rows.superNoneSpec.post enc Tryz.prog Tryz.f9 false true false false) := by
  refine returnsInHanded_of_change_shaped (C := Tryz.checked) own started (by kernel_rfl) Tryz.func9
    (ChangeSpec.witness6 (enc := enc) (C := Tryz.checked) false ⟨#[], #[.agg #[.int .u64 0, .int .i64 0, .int .u64 0, .int .i64 0, .int .i64 0], .int .i64 0], []⟩ 8 (by kernel_rfl) (by kernel_rfl) (by kernel_rfl) (by kernel_rfl)) ?_
  intro W base args ds gs before hval hW _ _ hsh _
  have hF : funcOk Tryz.prog 9 S.e9.vm S.e9 = true := S.hT 9 S.e9 (by kernel_rfl)
  exact contract_of (tys := tys) (tb := 4) hF (by kernel_rfl) (by kernel_rfl) Tryz.underlying4 rfl
    (fun ds hl => by
      match ds, hl with
      | [_, _], _ => rfl)
    (law H) W base args ds gs before hval hW (shaped_cells (by kernel_rfl) (by kernel_rfl) hsh)

end Go.Proofs.YthlijlhfhlbehaaGreat
