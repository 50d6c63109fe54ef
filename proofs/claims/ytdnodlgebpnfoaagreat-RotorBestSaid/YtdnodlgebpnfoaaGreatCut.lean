/- Where several ways through a region end alike: what is known behind it, said once. -/
import Derived.Test.YtdnodlgebpnfoaaGreatAny
namespace Go.Proofs.YtdnodlgebpnfoaaGreat
open Go Go.RowKit Go.Shelf Sw

section
variable {P : Program} {r : Option Nat} {m : Nat} {Q : Exit → Act → World → Prop} {ds : List Nat} {w W : World} {n : Nat} {a : Act} {κ : KV} {l : List Blk} {Φ : World → Prop} {C : Code}
def CutQ (R : Act → World → Prop) (e : Exit) (a : Act) (W : World) : Prop := e = .normal ∧ R a W
theorem cut_end {R : Act → World → Prop} (h : R a W) : CutQ R .normal a W := ⟨rfl, h⟩
/-- One temporary more. -/
theorem st_cut (d : Nat) (x : Value) (hS : St ds w W n a κ l Φ) (h : C.wpIn (Fw r) m P (CutQ fun a W => St ds w W n a ((d, x) :: κ) l Φ) a W) (K : ∀ W a, St ds w W n a ((d, x) :: κ) l Φ → Q .normal a W) : C.wpIn (Fw r) m P Q a W :=
  wpIn_mono h fun e a' W' he => by obtain ⟨rfl, hS'⟩ := he; exact K W' a' hS'
/-- One's own blocks changed. -/
theorem st_cutB (cs : List (Nat × List Value)) (hS : St ds w W n a κ l Φ) (h : C.wpIn (Fw r) m P (CutQ fun a W => St ds w W n a κ (cs.foldl (fun l p => setB l p.1 p.2) l) Φ) a W) (K : ∀ W a, St ds w W n a κ (cs.foldl (fun l p => setB l p.1 p.2) l) Φ → Q .normal a W) : C.wpIn (Fw r) m P Q a W :=
  wpIn_mono h fun e a' W' he => by obtain ⟨rfl, hS'⟩ := he; exact K W' a' hS'
/-- Temporaries and a new block, whatever the order. -/
theorem st_cutN (xs : Nat → KV) (ls : Nat → List Blk) (hS : St ds w W n a κ l Φ) (h : C.wpIn (Fw r) m P (CutQ fun a W => ∃ b, St ds w W n a (xs b ++ κ) (ls b ++ l) Φ) a W) (K : ∀ W a b, St ds w W n a (xs b ++ κ) (ls b ++ l) Φ → Q .normal a W) : C.wpIn (Fw r) m P Q a W :=
  wpIn_mono h fun e a' W' he => by obtain ⟨rfl, b, hS'⟩ := he; exact K W' a' b hS'
end
end Go.Proofs.YtdnodlgebpnfoaaGreat
