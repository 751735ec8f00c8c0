/- A row appended to a list of rows, in a region that draws. -/
import Derived.Test.YtcgcgmlonhganaaPool
import Derived.Test.YtcgcgmlonhganaaVisit
import Derived.RangeFuncBox
import Derived.Laws.EntriesVeiled
import Derived.Deep.RegionLaw
import Derived.Deep.CutRange
namespace Go.Proofs.Ytcgcgmlonhganaa
open Go.RowKit
open Go.Lib (hid)

theorem step_append_vals {w : World} {ops : Array Oper} {o : Oper} {a : Act} {K : Act → World → Prop} {E : Prop} (hgd : o.guard = none) (s x : Operand)
    (ho : o.op = .call { callee := .builtin .append, args := #[s, x], argTypes := #[22, 22] }) (lo : Nat) (v : Value) (Z Y : List (Value × List Int)) (ad : Option Addr) (c : Nat) (hs : a.eval s = v) (hx : a.eval x = .slice ad Y.length c)
    (hF : OMat w lo v Z) (hn : ad = none → Y = []) (hc : ∀ (a : Addr) (j : Nat) (z : Value × List Int), ad = some a → Y[j]? = some z → w.cell? (a.add j) = some z.1) (h1 : ∀ z ∈ Y, z.1.oneCell' = true) (hlen : Z.length + Y.length ≤ 1099511627776) (hls : lo ≤ w.heap.size)
    (h : ∀ v' w', OMat w' lo v' (Z ++ Y) → w.grownBy w' v.ownBlock → (v'.ownBlock = v.ownBlock ∨ v'.ownBlock = some w.heap.size) → K (a.put o.dst v') w') {Q : Exit → Act → World → Prop} :
    if Region.wanted o (yielded ops a.tmps) = true then Oper.wp Try.prog o a w K Q else E := by
  have hw : Region.wanted o (yielded ops a.tmps) = true := by simp [Region.wanted, hgd]
  rw [if_pos hw]
  obtain ⟨v', w', hr', h2, h3, h4⟩ := run_append_vals (c := c) o.type hF hn hc h1 hlen hls
  unfold Oper.wp execOp
  simp only [ho, resolve, invoke, builtin, Sem.run_bind, Sem.run_pure, Result.andThen_ok, List.map_toArray, List.map_cons, List.map_nil, hs, hx, hr']
  exact h v' w' h2 h3 h4
theorem row_cell1 {w : World} (u : Value) : ∀ (a : Addr) (j : Nat) (z : Value × List Int) (x : List Int), some (⟨w.heap.size, 0, none⟩ : Addr) = some a → [(u, x)][j]? = some z → (w.alloc (.cells #[u] 24)).cell? (a.add j) = some z.1 := by
  rintro a j z x he hz
  cases he
  cases j with
  | zero => simp at hz; subst hz; rw [addr_add]; exact cell_new _ _ _
  | succ j => simp at hz

end Go.Proofs.Ytcgcgmlonhganaa
