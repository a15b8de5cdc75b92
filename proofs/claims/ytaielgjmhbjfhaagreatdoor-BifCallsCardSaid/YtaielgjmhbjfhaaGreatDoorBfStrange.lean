/- For BifCalls. -/
import Derived.Test.YtaielgjmhbjfhaaGreatDoorBfShelf
import Derived.Test.YtaielgjmhbjfhaaGreatDoorBfEnv
import Derived.Lib.OthersKept
import Derived.Stop.FmtQuoteTie
set_option linter.unusedVariables false
namespace Go.Proofs.YtaielgjmhbjfhaaGreatDoor
open Go Go.RowKit
theorem width_pos (s:ByteArray) (pos:Nat) (h:pos<s.size):1≤(Utf8.decode s pos).2:=by
 by_cases ha:(s[pos]'h).toNat<128
 ·rw[decode_ascii s pos h ha]
  exact Nat.le_refl _
 ·exact(decode_high s pos h (by omega)).2
theorem Df (s:ByteArray) (pos:Nat) (h:pos<s.size):Lib.decodeGo (s.extract pos s.size)=Utf8.decode s pos:=by
 have:(s.extract pos s.size).size≠0:=by simp;omega
 rw[Lib.decodeGo,if_neg this,Go.Extern.FmtText.decode_extract]
theorem P1 {w w' :World} (hT:Lib.Utf8Tabs 4 5 w) (hb:Below w.heap.size w w'):Lib.Utf8Tabs 4 5 w' :=by
 have key:∀{a:Addr} {v:Value},w.cell? a=some v→w'.cell? a=some v:=fun{a v} e=>by
  have:=block_lt_of_cell e
  rw[←e];simp only[World.cell?,hb.block _ this]
 exact⟨fun c hc=>key (hT.1 c hc),fun i hi=>⟨key (hT.2 i hi).1,key (hT.2 i hi).2⟩⟩
theorem Is (l:List UInt8) (f pos:Nat) (h:¬pos<l.length):Bf.cj l f pos= -1:=by
 cases f with
 |zero=>rfl
 |succ f=>simp[Bf.cj,h]
set_option maxHeartbeats 4000000 in
set_option maxRecDepth 1000000 in
theorem Ik (s:ByteArray) (w:World) (hT:Lib.Utf8Tabs 4 5 w):
  Calls Tryz.prog 149 #[.string s] w fun e w' =>e=.returned (.int .i64 (Bf.cj s.data.toList (s.data.toList.length+1) 0))∧Below w.heap.size w w' :=by
 have hlen:s.data.toList.length=s.size:=by simp
 go_enter Tryz.func149,Tryz.ntmps149
 go_wp2
 go_loopw [] (fun wr=>∃(pos fuel:Nat),wr.heap[w.heap.size]? =some (.stringIter s pos)∧Below w.heap.size w wr∧Bf.cj s.data.toList fuel pos=Bf.cj s.data.toList (s.data.toList.length+1) 0∧s.size<pos+fuel) (fun wr=>s.size-World.iterPos wr w.heap.size)
 case atStart=>
  exact⟨0,s.data.toList.length+1,World.iter_heap w s 0,(Below.refl _ w).alloc (Nat.le_refl _) _,rfl,by omega⟩
 case round=>
  obtain⟨pos,fuel,hit,hbw,hacc,hfu⟩:=hrel
  have hsz:w.heap.size<wr.heap.size:=(Array.getElem?_eq_some_iff.1 hit).1
  by_cases hp:pos<s.size
  ·have hnx:∀ty,(Instr.next (.pointer (some ⟨w.heap.size,0,none⟩)) true ty).run Tryz.prog wr=_:=fun ty=>Lib.run_next_any_at wr w.heap.size s pos ty hit hp
   have hwd:=width_pos s pos hp
   have hit2:=Lib.iterAt_heap wr w.heap.size s pos (pos+(Utf8.decode s pos).2) hit
   have hbw2:=Lib.below_iterAt hbw (k:=w.heap.size) (Nat.le_refl _) s (pos+(Utf8.decode s pos).2)
   obtain⟨f,rfl⟩:∃f,fuel=f+1:=⟨fuel-1,by omega⟩
   have hstep:Bf.cj s.data.toList (f+1) pos=if(Utf8.decode s pos).1=65533∧(Utf8.decode s pos).2<2 then(pos:Int)else Bf.cj s.data.toList f (pos+(Utf8.decode s pos).2):=by
    rw[Bf.cj,if_pos (by rw[hlen];exact hp)]
   by_cases h1:(Utf8.decode s pos).1=65533
   ·have hT2:=P1 hT hbw2
    go_wp2_with (go_at_call 158;refine(Tryz.utf8_DecodeRuneInString _ _ hT2).mono ?_)
    rintro e W1 ⟨rfl,b1⟩
    rw[Df s pos hp,h1];have hlt:w.heap.size<(wr.iterAt w.heap.size s (pos+(Utf8.decode s pos).2)).heap.size:=by rw[Lib.iterAt_size];exact hsz
    have hit3:W1.heap[w.heap.size]? =some (.stringIter s (pos+(Utf8.decode s pos).2)):=by rw[b1.block _ hlt];exact hit2
    have hbw3:Below w.heap.size w W1:=hbw2.trans (b1.mono (by rw[Lib.iterAt_size];omega))
    by_cases h2:(Utf8.decode s pos).2<2
    ·have h2' :((Utf8.decode s pos).2:Int)<2:=by omega
     go_wp2
     go_ret
     rw[hstep,if_pos ⟨h1,h2⟩]at hacc
     exact⟨congrArg (fun x=>Ending.returned (Value.int IntKind.i64 x)) hacc,hbw3⟩
    ·rw[hstep,if_neg (fun x=>h2 x.2)]at hacc
     have h2' :¬((Utf8.decode s pos).2:Int)<2:=by omega
     go_wp2
     go_roundw
     case rel=>
      exact⟨pos+(Utf8.decode s pos).2,f,hit3,hbw3,hacc,by omega⟩
     case measure=>
      simp only[World.iterPos,hit3,hit]
      omega
   ·rw[hstep,if_neg (fun x=>h1 x.1)]at hacc
    have h1' :¬((Utf8.decode s pos).1:Int)=65533:=by omega
    go_wp2
    go_roundw
    case rel=>
     exact⟨pos+(Utf8.decode s pos).2,f,hit2,hbw2,hacc,by omega⟩
    case measure=>
     simp only[World.iterPos,hit2,hit]
     omega
  ·have hnx:∀ty,(Instr.next (.pointer (some ⟨w.heap.size,0,none⟩)) true ty).run Tryz.prog wr=_:=fun ty=>Lib.run_next_end_at wr w.heap.size s pos ty hit hp
   go_wp2
   go_ret
   rw[Is _ _ _ (by rw[hlen];exact hp)]at hacc
   rw[←hacc];exact⟨rfl,hbw⟩
end Go.Proofs.YtaielgjmhbjfhaaGreatDoor
