/- For BifCalls. -/
import Derived.Test.YtaielgjmhbjfhaaGreatDoorBfReads
import Derived.Test.YtaielgjmhbjfhaaGreatDoorRows
set_option linter.unusedVariables false
namespace Go.Bf
open Go.AM hiding Sh
open Go.AM.R Go.Proofs Go.RowKit Go.ChangeShapes Go.Proofs.YtaielgjmhbjfhaaGreatDoor
theorem one_le {H:Type} (d:DataW H):1≤Rows.uptoBulk d:=by
 cases d with
 |lit l=>cases l<;>simp[Rows.uptoBulk]
 |nil=>simp[Rows.uptoBulk]
 |ptr d=>simp[Rows.uptoBulk]
 |slice elems spare=>simp[Rows.uptoBulk]
 |agg parts=>simp[Rows.uptoBulk]
 |iface t d=>simp[Rows.uptoBulk]
 |map es=>simp[Rows.uptoBulk]
 |held h=>simp[Rows.uptoBulk]
theorem K9 {H:Type}:∀l:List (DataW H),l.length≤Rows.uptoBulkAll l
 |[]=>by simp[Rows.uptoBulkAll]
 |d::l=>by
  have:=K9 l
  have:=one_le d
  simp only[Rows.uptoBulkAll,bav];omega
theorem TA {H:Type} {n:Nat} {d:DataW H} {cs:List AV} (h:Fits (gL n) d cs):∃f ts,(gL n).whole cs=aM f ts.length (bq ts)∧gW ts∧ts.length≤Rows.uptoBulk d:=by
 cases n with
 |zero=>exact h.elim
 |succ n=>
  rcases h with⟨_,h⟩|⟨es,spare,css,hd,hl,r0,h⟩
  ·exact⟨none,[],by rw[h];rfl,trivial,Nat.zero_le _⟩
  ·obtain⟨ts,h1,h2,h3⟩:=Ip (aaV n).1 r0
   refine⟨some spare.isEmpty,ts,by rw[h,h1,←h2];rfl,h3,?_⟩
   subst hd;have:=K9 es
   simp only[Rows.uptoBulk];omega
end Go.Bf
