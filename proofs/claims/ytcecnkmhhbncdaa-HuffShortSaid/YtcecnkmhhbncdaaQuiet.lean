/- A region that only reads, one operation at a time, what follows kept from being unfolded. -/
import Derived.Test.YtcecnkmhhbncdaaRows1
import Derived.Shelf.SlSortCmp.QuietGrown
namespace Go.Mg
open Go Go.RowKit Go.Sort
variable {P : Program} {ops : Array Oper} {C : World → Prop}
structure WQ (P : Program) (ops : Array Oper) (C : World → Prop) (Q : Act → Prop) (l : List Oper) (a : Act) : Prop where
  h : wpQuiet P ops C Q l a
theorem WQ.nil {Q : Act → Prop} {a : Act} (h : Q a) : WQ P ops C Q [] a := ⟨wpQuiet_nil h⟩
theorem WQ.step {Q : Act → Prop} {a : Act} {o : Oper} {rest : List Oper}
    (h : ∀ K : Act → Prop, (∀ a, WQ P ops C Q rest a → K a) → if Region.wanted o (yielded ops a.tmps) then o.quiet P a C K else K (a.put o.dst undef)) : WQ P ops C Q (o :: rest) a :=
  ⟨wpQuiet_step fun K hK => h K (fun a ha => hK a ha.h)⟩
theorem WQ.region {id : Nat} {Q : Exit → Act → World → Prop} {a : Act} {w : World} {l : List Oper} (hm : P.follows .mixedOrders = true) (hB : Region.lexB .any l.toArray = true)
    (h : WQ P l.toArray (fun w' => ∃ p : GrownBy, w' = grow (w.drewN p.n) p.os) (fun a' => ∀ w', (∃ p : GrownBy, w' = grow (w.drewN p.n) p.os) → Q .normal a' w') l a) : (Code.region id l.toArray true).wp P Q a w :=
  wp_region_quiet_grown hm hB h.h
theorem kp_grow (w : World) (n : Nat) (os : Array Obj) : Kp (fun _ => False) w (grow (w.drewN n) os) :=
  ⟨rfl, rfl, rfl, by simp, fun k hk _ => heap_grow_old (w.drewN n) os hk⟩
theorem grown_alloc {P : Program} {f : FuncId} {args : Array Value} {w : World} {v : Value} {o : Obj} (h : Calls P f args w fun e w' => e = .returned v ∧ w' = w.alloc o) :
    Calls P f args w fun e w' => e = .returned v ∧ ∃ q os', w' = grow (w.drewN q) os' :=
  h.mono fun _ _ ⟨he, hw⟩ => ⟨he, 0, #[o], by rw [hw, alloc_eq_grow]; rfl⟩
theorem grown_same {P : Program} {f : FuncId} {args : Array Value} {w : World} {v : Value} (h : Calls P f args w fun e w' => e = .returned v ∧ w' = w) :
    Calls P f args w fun e w' => e = .returned v ∧ ∃ q os', w' = grow (w.drewN q) os' :=
  h.mono fun _ _ ⟨he, hw⟩ => ⟨he, 0, #[], by rw [hw, grow_empty]; rfl⟩
end Go.Mg
