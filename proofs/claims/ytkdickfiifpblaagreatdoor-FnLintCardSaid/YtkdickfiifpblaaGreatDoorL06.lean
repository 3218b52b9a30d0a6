/- Towards FnLint: Vf, Dd, De, Kx, Ky, Kz, La, Vo, Lb, Lc. -/
import Derived.Test.YtkdickfiifpblaaGreatDoorL05
import Derived.Test.YtkdickfiifpblaaGreatDoorProg
import Derived.KernelRfl
namespace Go.Proofs.YtkdickfiifpblaaGreatDoor.D
open Go Go.Den Go.Proofs
theorem v85 : ∀ (hk : Hk) (plans : Nat->Plan) (c0 : Nat) (n1 : Int) (b2 : Bool) (S : St) (Q : AV->St->Prop),wFn true hk Tryz.prog (tabOf Tryz.prog) plans false 85 [.ptr c0 0,.one (.i n1),.one (.bool b2)] S Q=(true=true/\∃ R,hk.1 42 [.ptr c0 0,.one (.sl (some S.toks.length) 7 [.str k31,.str k32,.str k33,.str k34,.str k35,.str k36,.str k37])] (S.born (7,9,1)) [] R/\∀ (s :
 ByteArray) (S1 : St),R (.one (.str s)) S1->∃ R,hk.1 41 [.ptr c0 0,.one (.i 9)] S1 [] R/\∀ (n : Int) (S1 : St),R (.one (.i n)) S1->((n == 0)=true->((n == 0)=true->∃ R,hk.1 41 [.ptr c0 0,.one (.i 9)] S1 [] R/\∀ (n : Int) (S1 : St),R (.one (.i n)) S1->∃ R,hk.1 34 [.one (.i n)] S1 [] R/\∀ (s : ByteArray) (S1 : St),R (.one (.str s)) S1->true=true/\Q (.one (.str s)) S1)/\((n ==
 0)=false->((n == 2)=true->s.size + 4<=9223372036854775807/\true=true/\Q (.one (.str (s++k26))) S1)/\((n == 2)=false->((n == 3)=true->4 + s.size<=9223372036854775807/\true=true/\Q (.one (.str (k27++s))) S1)/\((n == 3)=false->((n == 4)=true->true=true/\Q (.one (.str k38)) S1)/\((n == 4)=false->((n == 5)=true->((n == 5)=true->(decide (n1 > 0)=true->in64 (n1 - 1)/\∃ R,hk.1 85 [.ptr
 c0 0,.one (.i (n1 - 1)),.one (.bool b2)] S1 [] R/\∀ (s : ByteArray) (S1 : St),R (.one (.str s)) S1->s.size + 1<=9223372036854775807/\∃ R,hk.1 42 [.ptr c0 0,.one (.sl (some S1.toks.length) 3 [.str k6,.str k7,.str k5])] (S1.born (3,9,1)) [] R/\∀ (s_1 : ByteArray) (S1 : St),R (.one (.str s_1)) S1->(s++k28).size + s_1.size<=9223372036854775807/\(s++k28++s_1).size +
 1<=9223372036854775807/\in64 (n1 - 1)/\∃ R,hk.1 85 [.ptr c0 0,.one (.i (n1 - 1)),.one (.bool b2)] S1 [] R/\∀ (s_2 : ByteArray) (S1 : St),R (.one (.str s_2)) S1->(s++k28++s_1++k28).size + s_2.size<=9223372036854775807/\true=true/\Q (.one (.str (s++k28++s_1++k28++s_2))) S1)/\(decide (n1 > 0)=false->(b2=true->∃ R,hk.1 16 [.ptr c0 0,.one (.i 8)] S1 [] R/\∀ (b : Bool) (S1 : St),R
 (.one (.bool b)) S1->(b=true->∃ R,hk.1 42 [.ptr c0 0,.one (.sl (some S1.toks.length) 4 [.str k3,.str k39,.str k40,.str k41])] (S1.born (4,9,1)) [] R/\∀ (s : ByteArray) (S1 : St),R (.one (.str s)) S1->true=true/\Q (.one (.str s)) S1)/\(b=false->true=true/\Q (.one (.str s)) S1))/\(b2=false->true=true/\Q (.one (.str s)) S1)))/\((n == 5)=false->((n == 7)=true->(decide (n1 >
 0)=true->in64 (n1 - 1)/\∃ R,hk.1 85 [.ptr c0 0,.one (.i (n1 - 1)),.one (.bool b2)] S1 [] R/\∀ (s : ByteArray) (S1 : St),R (.one (.str s)) S1->2 + s.size<=9223372036854775807/\(k29++s).size + 2<=9223372036854775807/\true=true/\Q (.one (.str (k29++s++k30))) S1)/\(decide (n1 > 0)=false->(b2=true->∃ R,hk.1 16 [.ptr c0 0,.one (.i 8)] S1 [] R/\∀ (b : Bool) (S1 : St),R (.one (.bool
 b)) S1->(b=true->∃ R,hk.1 42 [.ptr c0 0,.one (.sl (some S1.toks.length) 4 [.str k3,.str k39,.str k40,.str k41])] (S1.born (4,9,1)) [] R/\∀ (s : ByteArray) (S1 : St),R (.one (.str s)) S1->true=true/\Q (.one (.str s)) S1)/\(b=false->true=true/\Q (.one (.str s)) S1))/\(b2=false->true=true/\Q (.one (.str s)) S1)))/\((n == 7)=false->(b2=true->∃ R,hk.1 16 [.ptr c0 0,.one (.i 8)] S1
 [] R/\∀ (b : Bool) (S1 : St),R (.one (.bool b)) S1->(b=true->∃ R,hk.1 42 [.ptr c0 0,.one (.sl (some S1.toks.length) 4 [.str k3,.str k39,.str k40,.str k41])] (S1.born (4,9,1)) [] R/\∀ (s : ByteArray) (S1 : St),R (.one (.str s)) S1->true=true/\Q (.one (.str s)) S1)/\(b=false->true=true/\Q (.one (.str s)) S1))/\(b2=false->true=true/\Q (.one (.str s)) S1))))/\((n == 5)=false->((n
 == 6)=true->(decide (n1 > 0)=true->in64 (n1 - 1)/\∃ R,hk.1 85 [.ptr c0 0,.one (.i (n1 - 1)),.one (.bool b2)] S1 [] R/\∀ (s : ByteArray) (S1 : St),R (.one (.str s)) S1->s.size + 1<=9223372036854775807/\∃ R,hk.1 42 [.ptr c0 0,.one (.sl (some S1.toks.length) 3 [.str k6,.str k7,.str k5])] (S1.born (3,9,1)) [] R/\∀ (s_1 : ByteArray) (S1 : St),R (.one (.str s_1)) S1->(s++k28).size +
 s_1.size<=9223372036854775807/\(s++k28++s_1).size + 1<=9223372036854775807/\in64 (n1 - 1)/\∃ R,hk.1 85 [.ptr c0 0,.one (.i (n1 - 1)),.one (.bool b2)] S1 [] R/\∀ (s_2 : ByteArray) (S1 : St),R (.one (.str s_2)) S1->(s++k28++s_1++k28).size + s_2.size<=9223372036854775807/\true=true/\Q (.one (.str (s++k28++s_1++k28++s_2))) S1)/\(decide (n1 > 0)=false->(b2=true->∃ R,hk.1 16 [.ptr c0
 0,.one (.i 8)] S1 [] R/\∀ (b : Bool) (S1 : St),R (.one (.bool b)) S1->(b=true->∃ R,hk.1 42 [.ptr c0 0,.one (.sl (some S1.toks.length) 4 [.str k3,.str k39,.str k40,.str k41])] (S1.born (4,9,1)) [] R/\∀ (s : ByteArray) (S1 : St),R (.one (.str s)) S1->true=true/\Q (.one (.str s)) S1)/\(b=false->true=true/\Q (.one (.str s)) S1))/\(b2=false->true=true/\Q (.one (.str s)) S1)))/\((n
 == 6)=false->((n == 7)=true->(decide (n1 > 0)=true->in64 (n1 - 1)/\∃ R,hk.1 85 [.ptr c0 0,.one (.i (n1 - 1)),.one (.bool b2)] S1 [] R/\∀ (s : ByteArray) (S1 : St),R (.one (.str s)) S1->2 + s.size<=9223372036854775807/\(k29++s).size + 2<=9223372036854775807/\true=true/\Q (.one (.str (k29++s++k30))) S1)/\(decide (n1 > 0)=false->(b2=true->∃ R,hk.1 16 [.ptr c0 0,.one (.i 8)] S1 []
 R/\∀ (b : Bool) (S1 : St),R (.one (.bool b)) S1->(b=true->∃ R,hk.1 42 [.ptr c0 0,.one (.sl (some S1.toks.length) 4 [.str k3,.str k39,.str k40,.str k41])] (S1.born (4,9,1)) [] R/\∀ (s : ByteArray) (S1 : St),R (.one (.str s)) S1->true=true/\Q (.one (.str s)) S1)/\(b=false->true=true/\Q (.one (.str s)) S1))/\(b2=false->true=true/\Q (.one (.str s)) S1)))/\((n ==
 7)=false->(b2=true->∃ R,hk.1 16 [.ptr c0 0,.one (.i 8)] S1 [] R/\∀ (b : Bool) (S1 : St),R (.one (.bool b)) S1->(b=true->∃ R,hk.1 42 [.ptr c0 0,.one (.sl (some S1.toks.length) 4 [.str k3,.str k39,.str k40,.str k41])] (S1.born (4,9,1)) [] R/\∀ (s : ByteArray) (S1 : St),R (.one (.str s)) S1->true=true/\Q (.one (.str s)) S1)/\(b=false->true=true/\Q (.one (.str s))
 S1))/\(b2=false->true=true/\Q (.one (.str s)) S1)))))))))/\((n == 0)=false->((n == 1)=true->∃ R,hk.1 41 [.ptr c0 0,.one (.i 9)] S1 [] R/\∀ (n : Int) (S1 : St),R (.one (.i n)) S1->∃ R,hk.1 34 [.one (.i n)] S1 [] R/\∀ (s : ByteArray) (S1 : St),R (.one (.str s)) S1->true=true/\Q (.one (.str s)) S1)/\((n == 1)=false->((n == 2)=true->s.size + 4<=9223372036854775807/\true=true/\Q
 (.one (.str (s++k26))) S1)/\((n == 2)=false->((n == 3)=true->4 + s.size<=9223372036854775807/\true=true/\Q (.one (.str (k27++s))) S1)/\((n == 3)=false->((n == 4)=true->true=true/\Q (.one (.str k38)) S1)/\((n == 4)=false->((n == 5)=true->((n == 5)=true->(decide (n1 > 0)=true->in64 (n1 - 1)/\∃ R,hk.1 85 [.ptr c0 0,.one (.i (n1 - 1)),.one (.bool b2)] S1 [] R/\∀ (s : ByteArray) (S1
 : St),R (.one (.str s)) S1->s.size + 1<=9223372036854775807/\∃ R,hk.1 42 [.ptr c0 0,.one (.sl (some S1.toks.length) 3 [.str k6,.str k7,.str k5])] (S1.born (3,9,1)) [] R/\∀ (s_1 : ByteArray) (S1 : St),R (.one (.str s_1)) S1->(s++k28).size + s_1.size<=9223372036854775807/\(s++k28++s_1).size + 1<=9223372036854775807/\in64 (n1 - 1)/\∃ R,hk.1 85 [.ptr c0 0,.one (.i (n1 - 1)),.one
 (.bool b2)] S1 [] R/\∀ (s_2 : ByteArray) (S1 : St),R (.one (.str s_2)) S1->(s++k28++s_1++k28).size + s_2.size<=9223372036854775807/\true=true/\Q (.one (.str (s++k28++s_1++k28++s_2))) S1)/\(decide (n1 > 0)=false->(b2=true->∃ R,hk.1 16 [.ptr c0 0,.one (.i 8)] S1 [] R/\∀ (b : Bool) (S1 : St),R (.one (.bool b)) S1->(b=true->∃ R,hk.1 42 [.ptr c0 0,.one (.sl (some S1.toks.length) 4
 [.str k3,.str k39,.str k40,.str k41])] (S1.born (4,9,1)) [] R/\∀ (s : ByteArray) (S1 : St),R (.one (.str s)) S1->true=true/\Q (.one (.str s)) S1)/\(b=false->true=true/\Q (.one (.str s)) S1))/\(b2=false->true=true/\Q (.one (.str s)) S1)))/\((n == 5)=false->((n == 7)=true->(decide (n1 > 0)=true->in64 (n1 - 1)/\∃ R,hk.1 85 [.ptr c0 0,.one (.i (n1 - 1)),.one (.bool b2)] S1 [] R/\∀
 (s : ByteArray) (S1 : St),R (.one (.str s)) S1->2 + s.size<=9223372036854775807/\(k29++s).size + 2<=9223372036854775807/\true=true/\Q (.one (.str (k29++s++k30))) S1)/\(decide (n1 > 0)=false->(b2=true->∃ R,hk.1 16 [.ptr c0 0,.one (.i 8)] S1 [] R/\∀ (b : Bool) (S1 : St),R (.one (.bool b)) S1->(b=true->∃ R,hk.1 42 [.ptr c0 0,.one (.sl (some S1.toks.length) 4 [.str k3,.str k39,.str
 k40,.str k41])] (S1.born (4,9,1)) [] R/\∀ (s : ByteArray) (S1 : St),R (.one (.str s)) S1->true=true/\Q (.one (.str s)) S1)/\(b=false->true=true/\Q (.one (.str s)) S1))/\(b2=false->true=true/\Q (.one (.str s)) S1)))/\((n == 7)=false->(b2=true->∃ R,hk.1 16 [.ptr c0 0,.one (.i 8)] S1 [] R/\∀ (b : Bool) (S1 : St),R (.one (.bool b)) S1->(b=true->∃ R,hk.1 42 [.ptr c0 0,.one (.sl
 (some S1.toks.length) 4 [.str k3,.str k39,.str k40,.str k41])] (S1.born (4,9,1)) [] R/\∀ (s : ByteArray) (S1 : St),R (.one (.str s)) S1->true=true/\Q (.one (.str s)) S1)/\(b=false->true=true/\Q (.one (.str s)) S1))/\(b2=false->true=true/\Q (.one (.str s)) S1))))/\((n == 5)=false->((n == 6)=true->(decide (n1 > 0)=true->in64 (n1 - 1)/\∃ R,hk.1 85 [.ptr c0 0,.one (.i (n1 -
 1)),.one (.bool b2)] S1 [] R/\∀ (s : ByteArray) (S1 : St),R (.one (.str s)) S1->s.size + 1<=9223372036854775807/\∃ R,hk.1 42 [.ptr c0 0,.one (.sl (some S1.toks.length) 3 [.str k6,.str k7,.str k5])] (S1.born (3,9,1)) [] R/\∀ (s_1 : ByteArray) (S1 : St),R (.one (.str s_1)) S1->(s++k28).size + s_1.size<=9223372036854775807/\(s++k28++s_1).size + 1<=9223372036854775807/\in64 (n1 -
 1)/\∃ R,hk.1 85 [.ptr c0 0,.one (.i (n1 - 1)),.one (.bool b2)] S1 [] R/\∀ (s_2 : ByteArray) (S1 : St),R (.one (.str s_2)) S1->(s++k28++s_1++k28).size + s_2.size<=9223372036854775807/\true=true/\Q (.one (.str (s++k28++s_1++k28++s_2))) S1)/\(decide (n1 > 0)=false->(b2=true->∃ R,hk.1 16 [.ptr c0 0,.one (.i 8)] S1 [] R/\∀ (b : Bool) (S1 : St),R (.one (.bool b)) S1->(b=true->∃
 R,hk.1 42 [.ptr c0 0,.one (.sl (some S1.toks.length) 4 [.str k3,.str k39,.str k40,.str k41])] (S1.born (4,9,1)) [] R/\∀ (s : ByteArray) (S1 : St),R (.one (.str s)) S1->true=true/\Q (.one (.str s)) S1)/\(b=false->true=true/\Q (.one (.str s)) S1))/\(b2=false->true=true/\Q (.one (.str s)) S1)))/\((n == 6)=false->((n == 7)=true->(decide (n1 > 0)=true->in64 (n1 - 1)/\∃ R,hk.1 85
 [.ptr c0 0,.one (.i (n1 - 1)),.one (.bool b2)] S1 [] R/\∀ (s : ByteArray) (S1 : St),R (.one (.str s)) S1->2 + s.size<=9223372036854775807/\(k29++s).size + 2<=9223372036854775807/\true=true/\Q (.one (.str (k29++s++k30))) S1)/\(decide (n1 > 0)=false->(b2=true->∃ R,hk.1 16 [.ptr c0 0,.one (.i 8)] S1 [] R/\∀ (b : Bool) (S1 : St),R (.one (.bool b)) S1->(b=true->∃ R,hk.1 42 [.ptr c0
 0,.one (.sl (some S1.toks.length) 4 [.str k3,.str k39,.str k40,.str k41])] (S1.born (4,9,1)) [] R/\∀ (s : ByteArray) (S1 : St),R (.one (.str s)) S1->true=true/\Q (.one (.str s)) S1)/\(b=false->true=true/\Q (.one (.str s)) S1))/\(b2=false->true=true/\Q (.one (.str s)) S1)))/\((n == 7)=false->(b2=true->∃ R,hk.1 16 [.ptr c0 0,.one (.i 8)] S1 [] R/\∀ (b : Bool) (S1 : St),R (.one
 (.bool b)) S1->(b=true->∃ R,hk.1 42 [.ptr c0 0,.one (.sl (some S1.toks.length) 4 [.str k3,.str k39,.str k40,.str k41])] (S1.born (4,9,1)) [] R/\∀ (s : ByteArray) (S1 : St),R (.one (.str s)) S1->true=true/\Q (.one (.str s)) S1)/\(b=false->true=true/\Q (.one (.str s)) S1))/\(b2=false->true=true/\Q (.one (.str s))
 S1))))))))))
 := by intros; kernel_rfl
theorem v66 : ∀ (hk : Hk) (plans : Nat->Plan) (c0 : Nat) (b1 : Bool) (S : St) (Q : AV->St->Prop),wFn true hk Tryz.prog (tabOf Tryz.prog) plans false 66 [.ptr c0 0,.one (.bool b1)] S Q=(true=true/\∃ R,hk.1 42 [.ptr c0 0,.one (.sl (some S.toks.length) 5 [.str k31,.str k32,.str k33,.str k34,.str k35])] (S.born (5,9,1)) [] R/\∀ (s : ByteArray) (S1 : St),R (.one (.str s)) S1->∃
 R,hk.1 85 [.ptr c0 0,.one (.i 2),.one (.bool b1)] S1 [] R/\∀ (s_1 : ByteArray) (S1 : St),R (.one (.str s_1)) S1->∃ R,hk.1 42 [.ptr c0 0,.one (.sl (some S1.toks.length) 5 [.str k62,.str k63,.str k64,.str k33,.str k65])] (S1.born (5,9,1)) [] R/\∀ (s_2 : ByteArray) (S1 : St),R (.one (.str s_2)) S1->∃ R,hk.1 41 [.ptr c0 0,.one (.i 16)] S1 [] R/\∀ (n : Int) (S1 : St),R (.one (.i n))
 S1->(b1=true->(decide (n > 7)=true->in64 (n - 8)/\((n - 8 == 0)=true->((n - 8 == 0)=true->4 + s.size<=9223372036854775807/\(k42++s).size + 3<=9223372036854775807/\(k42++s++k43).size + s_1.size<=9223372036854775807/\(k42++s++k43++s_1).size + 1<=9223372036854775807/\true=true/\Q (.one (.str (k42++s++k43++s_1++k14))) S1)/\((n - 8 == 0)=false->((n - 8 == 3)=true->∃ R,hk.1 42 [.ptr
 c0 0,.one (.sl (some S1.toks.length) 2 [.str k34,.str k35])] (S1.born (2,9,1)) [] R/\∀ (s : ByteArray) (S1 : St),R (.one (.str s)) S1->9 + s.size<=9223372036854775807/\(k44++s).size + 12<=9223372036854775807/\(k44++s++k45).size + s_1.size<=9223372036854775807/\(k44++s++k45++s_1).size + 3<=9223372036854775807/\true=true/\Q (.one (.str (k44++s++k45++s_1++k46))) S1)/\((n - 8 ==
 3)=false->((n - 8 == 4)=true->s.size + 3<=9223372036854775807/\(s++k43).size + s_1.size<=9223372036854775807/\(s++k43++s_1).size + 1<=9223372036854775807/\true=true/\Q (.one (.str (s++k43++s_1++k14))) S1)/\((n - 8 == 4)=false->((n - 8 == 5)=true->((n - 8 == 5)=true->6 + s_1.size<=9223372036854775807/\(k47++s_1).size + 2<=9223372036854775807/\true=true/\Q (.one (.str
 (k47++s_1++k48))) S1)/\((n - 8 == 5)=false->((n - 8 == 7)=true->(b1=true->∃ R,hk.1 16 [.ptr c0 0,.one (.i 2)] S1 [] R/\∀ (b : Bool) (S1 : St),R (.one (.bool b)) S1->(b=true->5 + s_1.size<=9223372036854775807/\(k49++s_1).size + 1<=9223372036854775807/\true=true/\Q (.one (.str (k49++s_1++k14))) S1)/\(b=false->6 + s_1.size<=9223372036854775807/\(k50++s_1).size +
 1<=9223372036854775807/\true=true/\Q (.one (.str (k50++s_1++k14))) S1))/\(b1=false->6 + s_1.size<=9223372036854775807/\(k50++s_1).size + 1<=9223372036854775807/\true=true/\Q (.one (.str (k50++s_1++k14))) S1))/\((n - 8 == 7)=false->((n - 8 == 8)=true->9 + s.size<=9223372036854775807/\∃ R,hk.1 42 [.ptr c0 0,.one (.sl (some S1.toks.length) 3 [.str k_,.str k66,.str k67])] (S1.born
 (3,9,1)) [] R/\∀ (s_3 : ByteArray) (S1 : St),R (.one (.str s_3)) S1->(k51++s).size + s_3.size<=9223372036854775807/\(k51++s++s_3).size + 9<=9223372036854775807/\(k51++s++s_3++k52).size + s_2.size<=9223372036854775807/\(k51++s++s_3++k52++s_2).size + 2<=9223372036854775807/\true=true/\Q (.one (.str (k51++s++s_3++k52++s_2++k53))) S1)/\((n - 8 == 8)=false->((n - 8 == 9)=true->20 +
 s_2.size<=9223372036854775807/\(k54++s_2).size + 2<=9223372036854775807/\true=true/\Q (.one (.str (k54++s_2++k53))) S1)/\((n - 8 == 9)=false->((n - 8 == 10)=true->15 + s_2.size<=9223372036854775807/\(k55++s_2).size + 2<=9223372036854775807/\true=true/\Q (.one (.str (k55++s_2++k53))) S1)/\((n - 8 == 10)=false->((n - 8 == 11)=true->9 + s.size<=9223372036854775807/\∃ R,hk.1 42
 [.ptr c0 0,.one (.sl (some S1.toks.length) 3 [.str k_,.str k68,.str k69])] (S1.born (3,9,1)) [] R/\∀ (s_3 : ByteArray) (S1 : St),R (.one (.str s_3)) S1->(k56++s).size + s_3.size<=9223372036854775807/\(k56++s++s_3).size + 3<=9223372036854775807/\true=true/\Q (.one (.str (k56++s++s_3++k57))) S1)/\((n - 8 == 11)=false->((n - 8 == 12)=true->9 + s.size<=9223372036854775807/\∃ R,hk.1
 42 [.ptr c0 0,.one (.sl (some S1.toks.length) 3 [.str k_,.str k68,.str k70])] (S1.born (3,9,1)) [] R/\∀ (s_3 : ByteArray) (S1 : St),R (.one (.str s_3)) S1->(k56++s).size + s_3.size<=9223372036854775807/\(k56++s++s_3).size + 9<=9223372036854775807/\(k56++s++s_3++k52).size + s_2.size<=9223372036854775807/\(k56++s++s_3++k52++s_2).size + 2<=9223372036854775807/\true=true/\Q (.one
 (.str (k56++s++s_3++k52++s_2++k53))) S1)/\((n - 8 == 12)=false->((n - 8 == 13)=true->15 + s_2.size<=9223372036854775807/\(k58++s_2).size + 2<=9223372036854775807/\true=true/\Q (.one (.str (k58++s_2++k53))) S1)/\((n - 8 == 13)=false->((n - 8 == 14)=true->15 + s_1.size<=9223372036854775807/\(k59++s_1).size + 1<=9223372036854775807/\true=true/\Q (.one (.str (k59++s_1++k14)))
 S1)/\((n - 8 == 14)=false->4 + s.size<=9223372036854775807/\(k42++s).size + 3<=9223372036854775807/\(k42++s++k43).size + s_1.size<=9223372036854775807/\(k42++s++k43++s_1).size + 1<=9223372036854775807/\22 + s_1.size<=9223372036854775807/\(k60++s_1).size + 3<=9223372036854775807/\∃ R,hk.1 42 [.ptr c0 0,.one (.sl (some S1.toks.length) 3 [.str (k42++s++k43++s_1++k14),.str
 (k60++s_1++k46),.str k71])] (S1.born (3,9,1)) [] R/\∀ (s : ByteArray) (S1 : St),R (.one (.str s)) S1->7 + s.size<=9223372036854775807/\true=true/\Q (.one (.str (k61++s))) S1))))))))))/\((n - 8 == 5)=false->((n - 8 == 6)=true->6 + s_1.size<=9223372036854775807/\(k47++s_1).size + 2<=9223372036854775807/\true=true/\Q (.one (.str (k47++s_1++k48))) S1)/\((n - 8 == 6)=false->((n - 8
 == 7)=true->(b1=true->∃ R,hk.1 16 [.ptr c0 0,.one (.i 2)] S1 [] R/\∀ (b : Bool) (S1 : St),R (.one (.bool b)) S1->(b=true->5 + s_1.size<=9223372036854775807/\(k49++s_1).size + 1<=9223372036854775807/\true=true/\Q (.one (.str (k49++s_1++k14))) S1)/\(b=false->6 + s_1.size<=9223372036854775807/\(k50++s_1).size + 1<=9223372036854775807/\true=true/\Q (.one (.str (k50++s_1++k14)))
 S1))/\(b1=false->6 + s_1.size<=9223372036854775807/\(k50++s_1).size + 1<=9223372036854775807/\true=true/\Q (.one (.str (k50++s_1++k14))) S1))/\((n - 8 == 7)=false->((n - 8 == 8)=true->9 + s.size<=9223372036854775807/\∃ R,hk.1 42 [.ptr c0 0,.one (.sl (some S1.toks.length) 3 [.str k_,.str k66,.str k67])] (S1.born (3,9,1)) [] R/\∀ (s_3 : ByteArray) (S1 : St),R (.one (.str s_3))
 S1->(k51++s).size + s_3.size<=9223372036854775807/\(k51++s++s_3).size + 9<=9223372036854775807/\(k51++s++s_3++k52).size + s_2.size<=9223372036854775807/\(k51++s++s_3++k52++s_2).size + 2<=9223372036854775807/\true=true/\Q (.one (.str (k51++s++s_3++k52++s_2++k53))) S1)/\((n - 8 == 8)=false->((n - 8 == 9)=true->20 + s_2.size<=9223372036854775807/\(k54++s_2).size +
 2<=9223372036854775807/\true=true/\Q (.one (.str (k54++s_2++k53))) S1)/\((n - 8 == 9)=false->((n - 8 == 10)=true->15 + s_2.size<=9223372036854775807/\(k55++s_2).size + 2<=9223372036854775807/\true=true/\Q (.one (.str (k55++s_2++k53))) S1)/\((n - 8 == 10)=false->((n - 8 == 11)=true->9 + s.size<=9223372036854775807/\∃ R,hk.1 42 [.ptr c0 0,.one (.sl (some S1.toks.length) 3 [.str
 k_,.str k68,.str k69])] (S1.born (3,9,1)) [] R/\∀ (s_3 : ByteArray) (S1 : St),R (.one (.str s_3)) S1->(k56++s).size + s_3.size<=9223372036854775807/\(k56++s++s_3).size + 3<=9223372036854775807/\true=true/\Q (.one (.str (k56++s++s_3++k57))) S1)/\((n - 8 == 11)=false->((n - 8 == 12)=true->9 + s.size<=9223372036854775807/\∃ R,hk.1 42 [.ptr c0 0,.one (.sl (some S1.toks.length) 3
 [.str k_,.str k68,.str k70])] (S1.born (3,9,1)) [] R/\∀ (s_3 : ByteArray) (S1 : St),R (.one (.str s_3)) S1->(k56++s).size + s_3.size<=9223372036854775807/\(k56++s++s_3).size + 9<=9223372036854775807/\(k56++s++s_3++k52).size + s_2.size<=9223372036854775807/\(k56++s++s_3++k52++s_2).size + 2<=9223372036854775807/\true=true/\Q (.one (.str (k56++s++s_3++k52++s_2++k53))) S1)/\((n - 8
 == 12)=false->((n - 8 == 13)=true->15 + s_2.size<=9223372036854775807/\(k58++s_2).size + 2<=9223372036854775807/\true=true/\Q (.one (.str (k58++s_2++k53))) S1)/\((n - 8 == 13)=false->((n - 8 == 14)=true->15 + s_1.size<=9223372036854775807/\(k59++s_1).size + 1<=9223372036854775807/\true=true/\Q (.one (.str (k59++s_1++k14))) S1)/\((n - 8 == 14)=false->4 +
 s.size<=9223372036854775807/\(k42++s).size + 3<=9223372036854775807/\(k42++s++k43).size + s_1.size<=9223372036854775807/\(k42++s++k43++s_1).size + 1<=9223372036854775807/\22 + s_1.size<=9223372036854775807/\(k60++s_1).size + 3<=9223372036854775807/\∃ R,hk.1 42 [.ptr c0 0,.one (.sl (some S1.toks.length) 3 [.str (k42++s++k43++s_1++k14),.str (k60++s_1++k46),.str k71])] (S1.born
 (3,9,1)) [] R/\∀ (s : ByteArray) (S1 : St),R (.one (.str s)) S1->7 + s.size<=9223372036854775807/\true=true/\Q (.one (.str (k61++s))) S1))))))))))))))/\((n - 8 == 0)=false->((n - 8 == 1)=true->((n - 8 == 1)=true->4 + s.size<=9223372036854775807/\(k42++s).size + 3<=9223372036854775807/\(k42++s++k43).size + s_1.size<=9223372036854775807/\(k42++s++k43++s_1).size +
 1<=9223372036854775807/\true=true/\Q (.one (.str (k42++s++k43++s_1++k14))) S1)/\((n - 8 == 1)=false->((n - 8 == 3)=true->∃ R,hk.1 42 [.ptr c0 0,.one (.sl (some S1.toks.length) 2 [.str k34,.str k35])] (S1.born (2,9,1)) [] R/\∀ (s : ByteArray) (S1 : St),R (.one (.str s)) S1->9 + s.size<=9223372036854775807/\(k44++s).size + 12<=9223372036854775807/\(k44++s++k45).size +
 s_1.size<=9223372036854775807/\(k44++s++k45++s_1).size + 3<=9223372036854775807/\true=true/\Q (.one (.str (k44++s++k45++s_1++k46))) S1)/\((n - 8 == 3)=false->((n - 8 == 4)=true->s.size + 3<=9223372036854775807/\(s++k43).size + s_1.size<=9223372036854775807/\(s++k43++s_1).size + 1<=9223372036854775807/\true=true/\Q (.one (.str (s++k43++s_1++k14))) S1)/\((n - 8 == 4)=false->((n -
 8 == 5)=true->((n - 8 == 5)=true->6 + s_1.size<=9223372036854775807/\(k47++s_1).size + 2<=9223372036854775807/\true=true/\Q (.one (.str (k47++s_1++k48))) S1)/\((n - 8 == 5)=false->((n - 8 == 7)=true->(b1=true->∃ R,hk.1 16 [.ptr c0 0,.one (.i 2)] S1 [] R/\∀ (b : Bool) (S1 : St),R (.one (.bool b)) S1->(b=true->5 + s_1.size<=9223372036854775807/\(k49++s_1).size +
 1<=9223372036854775807/\true=true/\Q (.one (.str (k49++s_1++k14))) S1)/\(b=false->6 + s_1.size<=9223372036854775807/\(k50++s_1).size + 1<=9223372036854775807/\true=true/\Q (.one (.str (k50++s_1++k14))) S1))/\(b1=false->6 + s_1.size<=9223372036854775807/\(k50++s_1).size + 1<=9223372036854775807/\true=true/\Q (.one (.str (k50++s_1++k14))) S1))/\((n - 8 == 7)=false->((n - 8 ==
 8)=true->9 + s.size<=9223372036854775807/\∃ R,hk.1 42 [.ptr c0 0,.one (.sl (some S1.toks.length) 3 [.str k_,.str k66,.str k67])] (S1.born (3,9,1)) [] R/\∀ (s_3 : ByteArray) (S1 : St),R (.one (.str s_3)) S1->(k51++s).size + s_3.size<=9223372036854775807/\(k51++s++s_3).size + 9<=9223372036854775807/\(k51++s++s_3++k52).size +
 s_2.size<=9223372036854775807/\(k51++s++s_3++k52++s_2).size + 2<=9223372036854775807/\true=true/\Q (.one (.str (k51++s++s_3++k52++s_2++k53))) S1)/\((n - 8 == 8)=false->((n - 8 == 9)=true->20 + s_2.size<=9223372036854775807/\(k54++s_2).size + 2<=9223372036854775807/\true=true/\Q (.one (.str (k54++s_2++k53))) S1)/\((n - 8 == 9)=false->((n - 8 == 10)=true->15 +
 s_2.size<=9223372036854775807/\(k55++s_2).size + 2<=9223372036854775807/\true=true/\Q (.one (.str (k55++s_2++k53))) S1)/\((n - 8 == 10)=false->((n - 8 == 11)=true->9 + s.size<=9223372036854775807/\∃ R,hk.1 42 [.ptr c0 0,.one (.sl (some S1.toks.length) 3 [.str k_,.str k68,.str k69])] (S1.born (3,9,1)) [] R/\∀ (s_3 : ByteArray) (S1 : St),R (.one (.str s_3)) S1->(k56++s).size +
 s_3.size<=9223372036854775807/\(k56++s++s_3).size + 3<=9223372036854775807/\true=true/\Q (.one (.str (k56++s++s_3++k57))) S1)/\((n - 8 == 11)=false->((n - 8 == 12)=true->9 + s.size<=9223372036854775807/\∃ R,hk.1 42 [.ptr c0 0,.one (.sl (some S1.toks.length) 3 [.str k_,.str k68,.str k70])] (S1.born (3,9,1)) [] R/\∀ (s_3 : ByteArray) (S1 : St),R (.one (.str s_3))
 S1->(k56++s).size + s_3.size<=9223372036854775807/\(k56++s++s_3).size + 9<=9223372036854775807/\(k56++s++s_3++k52).size + s_2.size<=9223372036854775807/\(k56++s++s_3++k52++s_2).size + 2<=9223372036854775807/\true=true/\Q (.one (.str (k56++s++s_3++k52++s_2++k53))) S1)/\((n - 8 == 12)=false->((n - 8 == 13)=true->15 + s_2.size<=9223372036854775807/\(k58++s_2).size +
 2<=9223372036854775807/\true=true/\Q (.one (.str (k58++s_2++k53))) S1)/\((n - 8 == 13)=false->((n - 8 == 14)=true->15 + s_1.size<=9223372036854775807/\(k59++s_1).size + 1<=9223372036854775807/\true=true/\Q (.one (.str (k59++s_1++k14))) S1)/\((n - 8 == 14)=false->4 + s.size<=9223372036854775807/\(k42++s).size + 3<=9223372036854775807/\(k42++s++k43).size +
 s_1.size<=9223372036854775807/\(k42++s++k43++s_1).size + 1<=9223372036854775807/\22 + s_1.size<=9223372036854775807/\(k60++s_1).size + 3<=9223372036854775807/\∃ R,hk.1 42 [.ptr c0 0,.one (.sl (some S1.toks.length) 3 [.str (k42++s++k43++s_1++k14),.str (k60++s_1++k46),.str k71])] (S1.born (3,9,1)) [] R/\∀ (s : ByteArray) (S1 : St),R (.one (.str s)) S1->7 +
 s.size<=9223372036854775807/\true=true/\Q (.one (.str (k61++s))) S1))))))))))/\((n - 8 == 5)=false->((n - 8 == 6)=true->6 + s_1.size<=9223372036854775807/\(k47++s_1).size + 2<=9223372036854775807/\true=true/\Q (.one (.str (k47++s_1++k48))) S1)/\((n - 8 == 6)=false->((n - 8 == 7)=true->(b1=true->∃ R,hk.1 16 [.ptr c0 0,.one (.i 2)] S1 [] R/\∀ (b : Bool) (S1 : St),R (.one (.bool
 b)) S1->(b=true->5 + s_1.size<=9223372036854775807/\(k49++s_1).size + 1<=9223372036854775807/\true=true/\Q (.one (.str (k49++s_1++k14))) S1)/\(b=false->6 + s_1.size<=9223372036854775807/\(k50++s_1).size + 1<=9223372036854775807/\true=true/\Q (.one (.str (k50++s_1++k14))) S1))/\(b1=false->6 + s_1.size<=9223372036854775807/\(k50++s_1).size + 1<=9223372036854775807/\true=true/\Q
 (.one (.str (k50++s_1++k14))) S1))/\((n - 8 == 7)=false->((n - 8 == 8)=true->9 + s.size<=9223372036854775807/\∃ R,hk.1 42 [.ptr c0 0,.one (.sl (some S1.toks.length) 3 [.str k_,.str k66,.str k67])] (S1.born (3,9,1)) [] R/\∀ (s_3 : ByteArray) (S1 : St),R (.one (.str s_3)) S1->(k51++s).size + s_3.size<=9223372036854775807/\(k51++s++s_3).size +
 9<=9223372036854775807/\(k51++s++s_3++k52).size + s_2.size<=9223372036854775807/\(k51++s++s_3++k52++s_2).size + 2<=9223372036854775807/\true=true/\Q (.one (.str (k51++s++s_3++k52++s_2++k53))) S1)/\((n - 8 == 8)=false->((n - 8 == 9)=true->20 + s_2.size<=9223372036854775807/\(k54++s_2).size + 2<=9223372036854775807/\true=true/\Q (.one (.str (k54++s_2++k53))) S1)/\((n - 8 ==
 9)=false->((n - 8 == 10)=true->15 + s_2.size<=9223372036854775807/\(k55++s_2).size + 2<=9223372036854775807/\true=true/\Q (.one (.str (k55++s_2++k53))) S1)/\((n - 8 == 10)=false->((n - 8 == 11)=true->9 + s.size<=9223372036854775807/\∃ R,hk.1 42 [.ptr c0 0,.one (.sl (some S1.toks.length) 3 [.str k_,.str k68,.str k69])] (S1.born (3,9,1)) [] R/\∀ (s_3 : ByteArray) (S1 : St),R
 (.one (.str s_3)) S1->(k56++s).size + s_3.size<=9223372036854775807/\(k56++s++s_3).size + 3<=9223372036854775807/\true=true/\Q (.one (.str (k56++s++s_3++k57))) S1)/\((n - 8 == 11)=false->((n - 8 == 12)=true->9 + s.size<=9223372036854775807/\∃ R,hk.1 42 [.ptr c0 0,.one (.sl (some S1.toks.length) 3 [.str k_,.str k68,.str k70])] (S1.born (3,9,1)) [] R/\∀ (s_3 : ByteArray) (S1 :
 St),R (.one (.str s_3)) S1->(k56++s).size + s_3.size<=9223372036854775807/\(k56++s++s_3).size + 9<=9223372036854775807/\(k56++s++s_3++k52).size + s_2.size<=9223372036854775807/\(k56++s++s_3++k52++s_2).size + 2<=9223372036854775807/\true=true/\Q (.one (.str (k56++s++s_3++k52++s_2++k53))) S1)/\((n - 8 == 12)=false->((n - 8 == 13)=true->15 +
 s_2.size<=9223372036854775807/\(k58++s_2).size + 2<=9223372036854775807/\true=true/\Q (.one (.str (k58++s_2++k53))) S1)/\((n - 8 == 13)=false->((n - 8 == 14)=true->15 + s_1.size<=9223372036854775807/\(k59++s_1).size + 1<=9223372036854775807/\true=true/\Q (.one (.str (k59++s_1++k14))) S1)/\((n - 8 == 14)=false->4 + s.size<=9223372036854775807/\(k42++s).size +
 3<=9223372036854775807/\(k42++s++k43).size + s_1.size<=9223372036854775807/\(k42++s++k43++s_1).size + 1<=9223372036854775807/\22 + s_1.size<=9223372036854775807/\(k60++s_1).size + 3<=9223372036854775807/\∃ R,hk.1 42 [.ptr c0 0,.one (.sl (some S1.toks.length) 3 [.str (k42++s++k43++s_1++k14),.str (k60++s_1++k46),.str k71])] (S1.born (3,9,1)) [] R/\∀ (s : ByteArray) (S1 : St),R
 (.one (.str s)) S1->7 + s.size<=9223372036854775807/\true=true/\Q (.one (.str (k61++s))) S1))))))))))))))/\((n - 8 == 1)=false->((n - 8 == 2)=true->4 + s.size<=9223372036854775807/\(k42++s).size + 3<=9223372036854775807/\(k42++s++k43).size + s_1.size<=9223372036854775807/\(k42++s++k43++s_1).size + 1<=9223372036854775807/\true=true/\Q (.one (.str (k42++s++k43++s_1++k14)))
 S1)/\((n - 8 == 2)=false->((n - 8 == 3)=true->∃ R,hk.1 42 [.ptr c0 0,.one (.sl (some S1.toks.length) 2 [.str k34,.str k35])] (S1.born (2,9,1)) [] R/\∀ (s : ByteArray) (S1 : St),R (.one (.str s)) S1->9 + s.size<=9223372036854775807/\(k44++s).size + 12<=9223372036854775807/\(k44++s++k45).size + s_1.size<=9223372036854775807/\(k44++s++k45++s_1).size +
 3<=9223372036854775807/\true=true/\Q (.one (.str (k44++s++k45++s_1++k46))) S1)/\((n - 8 == 3)=false->((n - 8 == 4)=true->s.size + 3<=9223372036854775807/\(s++k43).size + s_1.size<=9223372036854775807/\(s++k43++s_1).size + 1<=9223372036854775807/\true=true/\Q (.one (.str (s++k43++s_1++k14))) S1)/\((n - 8 == 4)=false->((n - 8 == 5)=true->((n - 8 == 5)=true->6 +
 s_1.size<=9223372036854775807/\(k47++s_1).size + 2<=9223372036854775807/\true=true/\Q (.one (.str (k47++s_1++k48))) S1)/\((n - 8 == 5)=false->((n - 8 == 7)=true->(b1=true->∃ R,hk.1 16 [.ptr c0 0,.one (.i 2)] S1 [] R/\∀ (b : Bool) (S1 : St),R (.one (.bool b)) S1->(b=true->5 + s_1.size<=9223372036854775807/\(k49++s_1).size + 1<=9223372036854775807/\true=true/\Q (.one (.str
 (k49++s_1++k14))) S1)/\(b=false->6 + s_1.size<=9223372036854775807/\(k50++s_1).size + 1<=9223372036854775807/\true=true/\Q (.one (.str (k50++s_1++k14))) S1))/\(b1=false->6 + s_1.size<=9223372036854775807/\(k50++s_1).size + 1<=9223372036854775807/\true=true/\Q (.one (.str (k50++s_1++k14))) S1))/\((n - 8 == 7)=false->((n - 8 == 8)=true->9 + s.size<=9223372036854775807/\∃ R,hk.1
 42 [.ptr c0 0,.one (.sl (some S1.toks.length) 3 [.str k_,.str k66,.str k67])] (S1.born (3,9,1)) [] R/\∀ (s_3 : ByteArray) (S1 : St),R (.one (.str s_3)) S1->(k51++s).size + s_3.size<=9223372036854775807/\(k51++s++s_3).size + 9<=9223372036854775807/\(k51++s++s_3++k52).size + s_2.size<=9223372036854775807/\(k51++s++s_3++k52++s_2).size + 2<=9223372036854775807/\true=true/\Q (.one
 (.str (k51++s++s_3++k52++s_2++k53))) S1)/\((n - 8 == 8)=false->((n - 8 == 9)=true->20 + s_2.size<=9223372036854775807/\(k54++s_2).size + 2<=9223372036854775807/\true=true/\Q (.one (.str (k54++s_2++k53))) S1)/\((n - 8 == 9)=false->((n - 8 == 10)=true->15 + s_2.size<=9223372036854775807/\(k55++s_2).size + 2<=9223372036854775807/\true=true/\Q (.one (.str (k55++s_2++k53))) S1)/\((n
 - 8 == 10)=false->((n - 8 == 11)=true->9 + s.size<=9223372036854775807/\∃ R,hk.1 42 [.ptr c0 0,.one (.sl (some S1.toks.length) 3 [.str k_,.str k68,.str k69])] (S1.born (3,9,1)) [] R/\∀ (s_3 : ByteArray) (S1 : St),R (.one (.str s_3)) S1->(k56++s).size + s_3.size<=9223372036854775807/\(k56++s++s_3).size + 3<=9223372036854775807/\true=true/\Q (.one (.str (k56++s++s_3++k57)))
 S1)/\((n - 8 == 11)=false->((n - 8 == 12)=true->9 + s.size<=9223372036854775807/\∃ R,hk.1 42 [.ptr c0 0,.one (.sl (some S1.toks.length) 3 [.str k_,.str k68,.str k70])] (S1.born (3,9,1)) [] R/\∀ (s_3 : ByteArray) (S1 : St),R (.one (.str s_3)) S1->(k56++s).size + s_3.size<=9223372036854775807/\(k56++s++s_3).size + 9<=9223372036854775807/\(k56++s++s_3++k52).size +
 s_2.size<=9223372036854775807/\(k56++s++s_3++k52++s_2).size + 2<=9223372036854775807/\true=true/\Q (.one (.str (k56++s++s_3++k52++s_2++k53))) S1)/\((n - 8 == 12)=false->((n - 8 == 13)=true->15 + s_2.size<=9223372036854775807/\(k58++s_2).size + 2<=9223372036854775807/\true=true/\Q (.one (.str (k58++s_2++k53))) S1)/\((n - 8 == 13)=false->((n - 8 == 14)=true->15 +
 s_1.size<=9223372036854775807/\(k59++s_1).size + 1<=9223372036854775807/\true=true/\Q (.one (.str (k59++s_1++k14))) S1)/\((n - 8 == 14)=false->4 + s.size<=9223372036854775807/\(k42++s).size + 3<=9223372036854775807/\(k42++s++k43).size + s_1.size<=9223372036854775807/\(k42++s++k43++s_1).size + 1<=9223372036854775807/\22 + s_1.size<=9223372036854775807/\(k60++s_1).size +
 3<=9223372036854775807/\∃ R,hk.1 42 [.ptr c0 0,.one (.sl (some S1.toks.length) 3 [.str (k42++s++k43++s_1++k14),.str (k60++s_1++k46),.str k71])] (S1.born (3,9,1)) [] R/\∀ (s : ByteArray) (S1 : St),R (.one (.str s)) S1->7 + s.size<=9223372036854775807/\true=true/\Q (.one (.str (k61++s))) S1))))))))))/\((n - 8 == 5)=false->((n - 8 == 6)=true->6 +
 s_1.size<=9223372036854775807/\(k47++s_1).size + 2<=9223372036854775807/\true=true/\Q (.one (.str (k47++s_1++k48))) S1)/\((n - 8 == 6)=false->((n - 8 == 7)=true->(b1=true->∃ R,hk.1 16 [.ptr c0 0,.one (.i 2)] S1 [] R/\∀ (b : Bool) (S1 : St),R (.one (.bool b)) S1->(b=true->5 + s_1.size<=9223372036854775807/\(k49++s_1).size + 1<=9223372036854775807/\true=true/\Q (.one (.str
 (k49++s_1++k14))) S1)/\(b=false->6 + s_1.size<=9223372036854775807/\(k50++s_1).size + 1<=9223372036854775807/\true=true/\Q (.one (.str (k50++s_1++k14))) S1))/\(b1=false->6 + s_1.size<=9223372036854775807/\(k50++s_1).size + 1<=9223372036854775807/\true=true/\Q (.one (.str (k50++s_1++k14))) S1))/\((n - 8 == 7)=false->((n - 8 == 8)=true->9 + s.size<=9223372036854775807/\∃ R,hk.1
 42 [.ptr c0 0,.one (.sl (some S1.toks.length) 3 [.str k_,.str k66,.str k67])] (S1.born (3,9,1)) [] R/\∀ (s_3 : ByteArray) (S1 : St),R (.one (.str s_3)) S1->(k51++s).size + s_3.size<=9223372036854775807/\(k51++s++s_3).size + 9<=9223372036854775807/\(k51++s++s_3++k52).size + s_2.size<=9223372036854775807/\(k51++s++s_3++k52++s_2).size + 2<=9223372036854775807/\true=true/\Q (.one
 (.str (k51++s++s_3++k52++s_2++k53))) S1)/\((n - 8 == 8)=false->((n - 8 == 9)=true->20 + s_2.size<=9223372036854775807/\(k54++s_2).size + 2<=9223372036854775807/\true=true/\Q (.one (.str (k54++s_2++k53))) S1)/\((n - 8 == 9)=false->((n - 8 == 10)=true->15 + s_2.size<=9223372036854775807/\(k55++s_2).size + 2<=9223372036854775807/\true=true/\Q (.one (.str (k55++s_2++k53))) S1)/\((n
 - 8 == 10)=false->((n - 8 == 11)=true->9 + s.size<=9223372036854775807/\∃ R,hk.1 42 [.ptr c0 0,.one (.sl (some S1.toks.length) 3 [.str k_,.str k68,.str k69])] (S1.born (3,9,1)) [] R/\∀ (s_3 : ByteArray) (S1 : St),R (.one (.str s_3)) S1->(k56++s).size + s_3.size<=9223372036854775807/\(k56++s++s_3).size + 3<=9223372036854775807/\true=true/\Q (.one (.str (k56++s++s_3++k57)))
 S1)/\((n - 8 == 11)=false->((n - 8 == 12)=true->9 + s.size<=9223372036854775807/\∃ R,hk.1 42 [.ptr c0 0,.one (.sl (some S1.toks.length) 3 [.str k_,.str k68,.str k70])] (S1.born (3,9,1)) [] R/\∀ (s_3 : ByteArray) (S1 : St),R (.one (.str s_3)) S1->(k56++s).size + s_3.size<=9223372036854775807/\(k56++s++s_3).size + 9<=9223372036854775807/\(k56++s++s_3++k52).size +
 s_2.size<=9223372036854775807/\(k56++s++s_3++k52++s_2).size + 2<=9223372036854775807/\true=true/\Q (.one (.str (k56++s++s_3++k52++s_2++k53))) S1)/\((n - 8 == 12)=false->((n - 8 == 13)=true->15 + s_2.size<=9223372036854775807/\(k58++s_2).size + 2<=9223372036854775807/\true=true/\Q (.one (.str (k58++s_2++k53))) S1)/\((n - 8 == 13)=false->((n - 8 == 14)=true->15 +
 s_1.size<=9223372036854775807/\(k59++s_1).size + 1<=9223372036854775807/\true=true/\Q (.one (.str (k59++s_1++k14))) S1)/\((n - 8 == 14)=false->4 + s.size<=9223372036854775807/\(k42++s).size + 3<=9223372036854775807/\(k42++s++k43).size + s_1.size<=9223372036854775807/\(k42++s++k43++s_1).size + 1<=9223372036854775807/\22 + s_1.size<=9223372036854775807/\(k60++s_1).size +
 3<=9223372036854775807/\∃ R,hk.1 42 [.ptr c0 0,.one (.sl (some S1.toks.length) 3 [.str (k42++s++k43++s_1++k14),.str (k60++s_1++k46),.str k71])] (S1.born (3,9,1)) [] R/\∀ (s : ByteArray) (S1 : St),R (.one (.str s)) S1->7 + s.size<=9223372036854775807/\true=true/\Q (.one (.str (k61++s))) S1))))))))))))))))/\(decide (n > 7)=false->((n == 0)=true->((n == 0)=true->4 +
 s.size<=9223372036854775807/\(k42++s).size + 3<=9223372036854775807/\(k42++s++k43).size + s_1.size<=9223372036854775807/\(k42++s++k43++s_1).size + 1<=9223372036854775807/\true=true/\Q (.one (.str (k42++s++k43++s_1++k14))) S1)/\((n == 0)=false->((n == 3)=true->∃ R,hk.1 42 [.ptr c0 0,.one (.sl (some S1.toks.length) 2 [.str k34,.str k35])] (S1.born (2,9,1)) [] R/\∀ (s : ByteArray)
 (S1 : St),R (.one (.str s)) S1->9 + s.size<=9223372036854775807/\(k44++s).size + 12<=9223372036854775807/\(k44++s++k45).size + s_1.size<=9223372036854775807/\(k44++s++k45++s_1).size + 3<=9223372036854775807/\true=true/\Q (.one (.str (k44++s++k45++s_1++k46))) S1)/\((n == 3)=false->((n == 4)=true->s.size + 3<=9223372036854775807/\(s++k43).size +
 s_1.size<=9223372036854775807/\(s++k43++s_1).size + 1<=9223372036854775807/\true=true/\Q (.one (.str (s++k43++s_1++k14))) S1)/\((n == 4)=false->((n == 5)=true->((n == 5)=true->6 + s_1.size<=9223372036854775807/\(k47++s_1).size + 2<=9223372036854775807/\true=true/\Q (.one (.str (k47++s_1++k48))) S1)/\((n == 5)=false->((n == 7)=true->(b1=true->∃ R,hk.1 16 [.ptr c0 0,.one (.i 2)]
 S1 [] R/\∀ (b : Bool) (S1 : St),R (.one (.bool b)) S1->(b=true->5 + s_1.size<=9223372036854775807/\(k49++s_1).size + 1<=9223372036854775807/\true=true/\Q (.one (.str (k49++s_1++k14))) S1)/\(b=false->6 + s_1.size<=9223372036854775807/\(k50++s_1).size + 1<=9223372036854775807/\true=true/\Q (.one (.str (k50++s_1++k14))) S1))/\(b1=false->6 +
 s_1.size<=9223372036854775807/\(k50++s_1).size + 1<=9223372036854775807/\true=true/\Q (.one (.str (k50++s_1++k14))) S1))/\((n == 7)=false->((n == 8)=true->9 + s.size<=9223372036854775807/\∃ R,hk.1 42 [.ptr c0 0,.one (.sl (some S1.toks.length) 3 [.str k_,.str k66,.str k67])] (S1.born (3,9,1)) [] R/\∀ (s_3 : ByteArray) (S1 : St),R (.one (.str s_3)) S1->(k51++s).size +
 s_3.size<=9223372036854775807/\(k51++s++s_3).size + 9<=9223372036854775807/\(k51++s++s_3++k52).size + s_2.size<=9223372036854775807/\(k51++s++s_3++k52++s_2).size + 2<=9223372036854775807/\true=true/\Q (.one (.str (k51++s++s_3++k52++s_2++k53))) S1)/\((n == 8)=false->((n == 9)=true->20 + s_2.size<=9223372036854775807/\(k54++s_2).size + 2<=9223372036854775807/\true=true/\Q (.one
 (.str (k54++s_2++k53))) S1)/\((n == 9)=false->((n == 10)=true->15 + s_2.size<=9223372036854775807/\(k55++s_2).size + 2<=9223372036854775807/\true=true/\Q (.one (.str (k55++s_2++k53))) S1)/\((n == 10)=false->((n == 11)=true->9 + s.size<=9223372036854775807/\∃ R,hk.1 42 [.ptr c0 0,.one (.sl (some S1.toks.length) 3 [.str k_,.str k68,.str k69])] (S1.born (3,9,1)) [] R/\∀ (s_3 :
 ByteArray) (S1 : St),R (.one (.str s_3)) S1->(k56++s).size + s_3.size<=9223372036854775807/\(k56++s++s_3).size + 3<=9223372036854775807/\true=true/\Q (.one (.str (k56++s++s_3++k57))) S1)/\((n == 11)=false->((n == 12)=true->9 + s.size<=9223372036854775807/\∃ R,hk.1 42 [.ptr c0 0,.one (.sl (some S1.toks.length) 3 [.str k_,.str k68,.str k70])] (S1.born (3,9,1)) [] R/\∀ (s_3 :
 ByteArray) (S1 : St),R (.one (.str s_3)) S1->(k56++s).size + s_3.size<=9223372036854775807/\(k56++s++s_3).size + 9<=9223372036854775807/\(k56++s++s_3++k52).size + s_2.size<=9223372036854775807/\(k56++s++s_3++k52++s_2).size + 2<=9223372036854775807/\true=true/\Q (.one (.str (k56++s++s_3++k52++s_2++k53))) S1)/\((n == 12)=false->((n == 13)=true->15 +
 s_2.size<=9223372036854775807/\(k58++s_2).size + 2<=9223372036854775807/\true=true/\Q (.one (.str (k58++s_2++k53))) S1)/\((n == 13)=false->((n == 14)=true->15 + s_1.size<=9223372036854775807/\(k59++s_1).size + 1<=9223372036854775807/\true=true/\Q (.one (.str (k59++s_1++k14))) S1)/\((n == 14)=false->4 + s.size<=9223372036854775807/\(k42++s).size +
 3<=9223372036854775807/\(k42++s++k43).size + s_1.size<=9223372036854775807/\(k42++s++k43++s_1).size + 1<=9223372036854775807/\22 + s_1.size<=9223372036854775807/\(k60++s_1).size + 3<=9223372036854775807/\∃ R,hk.1 42 [.ptr c0 0,.one (.sl (some S1.toks.length) 3 [.str (k42++s++k43++s_1++k14),.str (k60++s_1++k46),.str k71])] (S1.born (3,9,1)) [] R/\∀ (s : ByteArray) (S1 : St),R
 (.one (.str s)) S1->7 + s.size<=9223372036854775807/\true=true/\Q (.one (.str (k61++s))) S1))))))))))/\((n == 5)=false->((n == 6)=true->6 + s_1.size<=9223372036854775807/\(k47++s_1).size + 2<=9223372036854775807/\true=true/\Q (.one (.str (k47++s_1++k48))) S1)/\((n == 6)=false->((n == 7)=true->(b1=true->∃ R,hk.1 16 [.ptr c0 0,.one (.i 2)] S1 [] R/\∀ (b : Bool) (S1 : St),R (.one
 (.bool b)) S1->(b=true->5 + s_1.size<=9223372036854775807/\(k49++s_1).size + 1<=9223372036854775807/\true=true/\Q (.one (.str (k49++s_1++k14))) S1)/\(b=false->6 + s_1.size<=9223372036854775807/\(k50++s_1).size + 1<=9223372036854775807/\true=true/\Q (.one (.str (k50++s_1++k14))) S1))/\(b1=false->6 + s_1.size<=9223372036854775807/\(k50++s_1).size +
 1<=9223372036854775807/\true=true/\Q (.one (.str (k50++s_1++k14))) S1))/\((n == 7)=false->((n == 8)=true->9 + s.size<=9223372036854775807/\∃ R,hk.1 42 [.ptr c0 0,.one (.sl (some S1.toks.length) 3 [.str k_,.str k66,.str k67])] (S1.born (3,9,1)) [] R/\∀ (s_3 : ByteArray) (S1 : St),R (.one (.str s_3)) S1->(k51++s).size + s_3.size<=9223372036854775807/\(k51++s++s_3).size +
 9<=9223372036854775807/\(k51++s++s_3++k52).size + s_2.size<=9223372036854775807/\(k51++s++s_3++k52++s_2).size + 2<=9223372036854775807/\true=true/\Q (.one (.str (k51++s++s_3++k52++s_2++k53))) S1)/\((n == 8)=false->((n == 9)=true->20 + s_2.size<=9223372036854775807/\(k54++s_2).size + 2<=9223372036854775807/\true=true/\Q (.one (.str (k54++s_2++k53))) S1)/\((n == 9)=false->((n ==
 10)=true->15 + s_2.size<=9223372036854775807/\(k55++s_2).size + 2<=9223372036854775807/\true=true/\Q (.one (.str (k55++s_2++k53))) S1)/\((n == 10)=false->((n == 11)=true->9 + s.size<=9223372036854775807/\∃ R,hk.1 42 [.ptr c0 0,.one (.sl (some S1.toks.length) 3 [.str k_,.str k68,.str k69])] (S1.born (3,9,1)) [] R/\∀ (s_3 : ByteArray) (S1 : St),R (.one (.str s_3))
 S1->(k56++s).size + s_3.size<=9223372036854775807/\(k56++s++s_3).size + 3<=9223372036854775807/\true=true/\Q (.one (.str (k56++s++s_3++k57))) S1)/\((n == 11)=false->((n == 12)=true->9 + s.size<=9223372036854775807/\∃ R,hk.1 42 [.ptr c0 0,.one (.sl (some S1.toks.length) 3 [.str k_,.str k68,.str k70])] (S1.born (3,9,1)) [] R/\∀ (s_3 : ByteArray) (S1 : St),R (.one (.str s_3))
 S1->(k56++s).size + s_3.size<=9223372036854775807/\(k56++s++s_3).size + 9<=9223372036854775807/\(k56++s++s_3++k52).size + s_2.size<=9223372036854775807/\(k56++s++s_3++k52++s_2).size + 2<=9223372036854775807/\true=true/\Q (.one (.str (k56++s++s_3++k52++s_2++k53))) S1)/\((n == 12)=false->((n == 13)=true->15 + s_2.size<=9223372036854775807/\(k58++s_2).size +
 2<=9223372036854775807/\true=true/\Q (.one (.str (k58++s_2++k53))) S1)/\((n == 13)=false->((n == 14)=true->15 + s_1.size<=9223372036854775807/\(k59++s_1).size + 1<=9223372036854775807/\true=true/\Q (.one (.str (k59++s_1++k14))) S1)/\((n == 14)=false->4 + s.size<=9223372036854775807/\(k42++s).size + 3<=9223372036854775807/\(k42++s++k43).size +
 s_1.size<=9223372036854775807/\(k42++s++k43++s_1).size + 1<=9223372036854775807/\22 + s_1.size<=9223372036854775807/\(k60++s_1).size + 3<=9223372036854775807/\∃ R,hk.1 42 [.ptr c0 0,.one (.sl (some S1.toks.length) 3 [.str (k42++s++k43++s_1++k14),.str (k60++s_1++k46),.str k71])] (S1.born (3,9,1)) [] R/\∀ (s : ByteArray) (S1 : St),R (.one (.str s)) S1->7 +
 s.size<=9223372036854775807/\true=true/\Q (.one (.str (k61++s))) S1))))))))))))))/\((n == 0)=false->((n == 1)=true->((n == 1)=true->4 + s.size<=9223372036854775807/\(k42++s).size + 3<=9223372036854775807/\(k42++s++k43).size + s_1.size<=9223372036854775807/\(k42++s++k43++s_1).size + 1<=9223372036854775807/\true=true/\Q (.one (.str (k42++s++k43++s_1++k14))) S1)/\((n ==
 1)=false->((n == 3)=true->∃ R,hk.1 42 [.ptr c0 0,.one (.sl (some S1.toks.length) 2 [.str k34,.str k35])] (S1.born (2,9,1)) [] R/\∀ (s : ByteArray) (S1 : St),R (.one (.str s)) S1->9 + s.size<=9223372036854775807/\(k44++s).size + 12<=9223372036854775807/\(k44++s++k45).size + s_1.size<=9223372036854775807/\(k44++s++k45++s_1).size + 3<=9223372036854775807/\true=true/\Q (.one (.str
 (k44++s++k45++s_1++k46))) S1)/\((n == 3)=false->((n == 4)=true->s.size + 3<=9223372036854775807/\(s++k43).size + s_1.size<=9223372036854775807/\(s++k43++s_1).size + 1<=9223372036854775807/\true=true/\Q (.one (.str (s++k43++s_1++k14))) S1)/\((n == 4)=false->((n == 5)=true->((n == 5)=true->6 + s_1.size<=9223372036854775807/\(k47++s_1).size + 2<=9223372036854775807/\true=true/\Q
 (.one (.str (k47++s_1++k48))) S1)/\((n == 5)=false->((n == 7)=true->(b1=true->∃ R,hk.1 16 [.ptr c0 0,.one (.i 2)] S1 [] R/\∀ (b : Bool) (S1 : St),R (.one (.bool b)) S1->(b=true->5 + s_1.size<=9223372036854775807/\(k49++s_1).size + 1<=9223372036854775807/\true=true/\Q (.one (.str (k49++s_1++k14))) S1)/\(b=false->6 + s_1.size<=9223372036854775807/\(k50++s_1).size +
 1<=9223372036854775807/\true=true/\Q (.one (.str (k50++s_1++k14))) S1))/\(b1=false->6 + s_1.size<=9223372036854775807/\(k50++s_1).size + 1<=9223372036854775807/\true=true/\Q (.one (.str (k50++s_1++k14))) S1))/\((n == 7)=false->((n == 8)=true->9 + s.size<=9223372036854775807/\∃ R,hk.1 42 [.ptr c0 0,.one (.sl (some S1.toks.length) 3 [.str k_,.str k66,.str k67])] (S1.born (3,9,1))
 [] R/\∀ (s_3 : ByteArray) (S1 : St),R (.one (.str s_3)) S1->(k51++s).size + s_3.size<=9223372036854775807/\(k51++s++s_3).size + 9<=9223372036854775807/\(k51++s++s_3++k52).size + s_2.size<=9223372036854775807/\(k51++s++s_3++k52++s_2).size + 2<=9223372036854775807/\true=true/\Q (.one (.str (k51++s++s_3++k52++s_2++k53))) S1)/\((n == 8)=false->((n == 9)=true->20 +
 s_2.size<=9223372036854775807/\(k54++s_2).size + 2<=9223372036854775807/\true=true/\Q (.one (.str (k54++s_2++k53))) S1)/\((n == 9)=false->((n == 10)=true->15 + s_2.size<=9223372036854775807/\(k55++s_2).size + 2<=9223372036854775807/\true=true/\Q (.one (.str (k55++s_2++k53))) S1)/\((n == 10)=false->((n == 11)=true->9 + s.size<=9223372036854775807/\∃ R,hk.1 42 [.ptr c0 0,.one
 (.sl (some S1.toks.length) 3 [.str k_,.str k68,.str k69])] (S1.born (3,9,1)) [] R/\∀ (s_3 : ByteArray) (S1 : St),R (.one (.str s_3)) S1->(k56++s).size + s_3.size<=9223372036854775807/\(k56++s++s_3).size + 3<=9223372036854775807/\true=true/\Q (.one (.str (k56++s++s_3++k57))) S1)/\((n == 11)=false->((n == 12)=true->9 + s.size<=9223372036854775807/\∃ R,hk.1 42 [.ptr c0 0,.one (.sl
 (some S1.toks.length) 3 [.str k_,.str k68,.str k70])] (S1.born (3,9,1)) [] R/\∀ (s_3 : ByteArray) (S1 : St),R (.one (.str s_3)) S1->(k56++s).size + s_3.size<=9223372036854775807/\(k56++s++s_3).size + 9<=9223372036854775807/\(k56++s++s_3++k52).size + s_2.size<=9223372036854775807/\(k56++s++s_3++k52++s_2).size + 2<=9223372036854775807/\true=true/\Q (.one (.str
 (k56++s++s_3++k52++s_2++k53))) S1)/\((n == 12)=false->((n == 13)=true->15 + s_2.size<=9223372036854775807/\(k58++s_2).size + 2<=9223372036854775807/\true=true/\Q (.one (.str (k58++s_2++k53))) S1)/\((n == 13)=false->((n == 14)=true->15 + s_1.size<=9223372036854775807/\(k59++s_1).size + 1<=9223372036854775807/\true=true/\Q (.one (.str (k59++s_1++k14))) S1)/\((n == 14)=false->4 +
 s.size<=9223372036854775807/\(k42++s).size + 3<=9223372036854775807/\(k42++s++k43).size + s_1.size<=9223372036854775807/\(k42++s++k43++s_1).size + 1<=9223372036854775807/\22 + s_1.size<=9223372036854775807/\(k60++s_1).size + 3<=9223372036854775807/\∃ R,hk.1 42 [.ptr c0 0,.one (.sl (some S1.toks.length) 3 [.str (k42++s++k43++s_1++k14),.str (k60++s_1++k46),.str k71])] (S1.born
 (3,9,1)) [] R/\∀ (s : ByteArray) (S1 : St),R (.one (.str s)) S1->7 + s.size<=9223372036854775807/\true=true/\Q (.one (.str (k61++s))) S1))))))))))/\((n == 5)=false->((n == 6)=true->6 + s_1.size<=9223372036854775807/\(k47++s_1).size + 2<=9223372036854775807/\true=true/\Q (.one (.str (k47++s_1++k48))) S1)/\((n == 6)=false->((n == 7)=true->(b1=true->∃ R,hk.1 16 [.ptr c0 0,.one (.i
 2)] S1 [] R/\∀ (b : Bool) (S1 : St),R (.one (.bool b)) S1->(b=true->5 + s_1.size<=9223372036854775807/\(k49++s_1).size + 1<=9223372036854775807/\true=true/\Q (.one (.str (k49++s_1++k14))) S1)/\(b=false->6 + s_1.size<=9223372036854775807/\(k50++s_1).size + 1<=9223372036854775807/\true=true/\Q (.one (.str (k50++s_1++k14))) S1))/\(b1=false->6 +
 s_1.size<=9223372036854775807/\(k50++s_1).size + 1<=9223372036854775807/\true=true/\Q (.one (.str (k50++s_1++k14))) S1))/\((n == 7)=false->((n == 8)=true->9 + s.size<=9223372036854775807/\∃ R,hk.1 42 [.ptr c0 0,.one (.sl (some S1.toks.length) 3 [.str k_,.str k66,.str k67])] (S1.born (3,9,1)) [] R/\∀ (s_3 : ByteArray) (S1 : St),R (.one (.str s_3)) S1->(k51++s).size +
 s_3.size<=9223372036854775807/\(k51++s++s_3).size + 9<=9223372036854775807/\(k51++s++s_3++k52).size + s_2.size<=9223372036854775807/\(k51++s++s_3++k52++s_2).size + 2<=9223372036854775807/\true=true/\Q (.one (.str (k51++s++s_3++k52++s_2++k53))) S1)/\((n == 8)=false->((n == 9)=true->20 + s_2.size<=9223372036854775807/\(k54++s_2).size + 2<=9223372036854775807/\true=true/\Q (.one
 (.str (k54++s_2++k53))) S1)/\((n == 9)=false->((n == 10)=true->15 + s_2.size<=9223372036854775807/\(k55++s_2).size + 2<=9223372036854775807/\true=true/\Q (.one (.str (k55++s_2++k53))) S1)/\((n == 10)=false->((n == 11)=true->9 + s.size<=9223372036854775807/\∃ R,hk.1 42 [.ptr c0 0,.one (.sl (some S1.toks.length) 3 [.str k_,.str k68,.str k69])] (S1.born (3,9,1)) [] R/\∀ (s_3 :
 ByteArray) (S1 : St),R (.one (.str s_3)) S1->(k56++s).size + s_3.size<=9223372036854775807/\(k56++s++s_3).size + 3<=9223372036854775807/\true=true/\Q (.one (.str (k56++s++s_3++k57))) S1)/\((n == 11)=false->((n == 12)=true->9 + s.size<=9223372036854775807/\∃ R,hk.1 42 [.ptr c0 0,.one (.sl (some S1.toks.length) 3 [.str k_,.str k68,.str k70])] (S1.born (3,9,1)) [] R/\∀ (s_3 :
 ByteArray) (S1 : St),R (.one (.str s_3)) S1->(k56++s).size + s_3.size<=9223372036854775807/\(k56++s++s_3).size + 9<=9223372036854775807/\(k56++s++s_3++k52).size + s_2.size<=9223372036854775807/\(k56++s++s_3++k52++s_2).size + 2<=9223372036854775807/\true=true/\Q (.one (.str (k56++s++s_3++k52++s_2++k53))) S1)/\((n == 12)=false->((n == 13)=true->15 +
 s_2.size<=9223372036854775807/\(k58++s_2).size + 2<=9223372036854775807/\true=true/\Q (.one (.str (k58++s_2++k53))) S1)/\((n == 13)=false->((n == 14)=true->15 + s_1.size<=9223372036854775807/\(k59++s_1).size + 1<=9223372036854775807/\true=true/\Q (.one (.str (k59++s_1++k14))) S1)/\((n == 14)=false->4 + s.size<=9223372036854775807/\(k42++s).size +
 3<=9223372036854775807/\(k42++s++k43).size + s_1.size<=9223372036854775807/\(k42++s++k43++s_1).size + 1<=9223372036854775807/\22 + s_1.size<=9223372036854775807/\(k60++s_1).size + 3<=9223372036854775807/\∃ R,hk.1 42 [.ptr c0 0,.one (.sl (some S1.toks.length) 3 [.str (k42++s++k43++s_1++k14),.str (k60++s_1++k46),.str k71])] (S1.born (3,9,1)) [] R/\∀ (s : ByteArray) (S1 : St),R
 (.one (.str s)) S1->7 + s.size<=9223372036854775807/\true=true/\Q (.one (.str (k61++s))) S1))))))))))))))/\((n == 1)=false->((n == 2)=true->4 + s.size<=9223372036854775807/\(k42++s).size + 3<=9223372036854775807/\(k42++s++k43).size + s_1.size<=9223372036854775807/\(k42++s++k43++s_1).size + 1<=9223372036854775807/\true=true/\Q (.one (.str (k42++s++k43++s_1++k14))) S1)/\((n ==
 2)=false->((n == 3)=true->∃ R,hk.1 42 [.ptr c0 0,.one (.sl (some S1.toks.length) 2 [.str k34,.str k35])] (S1.born (2,9,1)) [] R/\∀ (s : ByteArray) (S1 : St),R (.one (.str s)) S1->9 + s.size<=9223372036854775807/\(k44++s).size + 12<=9223372036854775807/\(k44++s++k45).size + s_1.size<=9223372036854775807/\(k44++s++k45++s_1).size + 3<=9223372036854775807/\true=true/\Q (.one (.str
 (k44++s++k45++s_1++k46))) S1)/\((n == 3)=false->((n == 4)=true->s.size + 3<=9223372036854775807/\(s++k43).size + s_1.size<=9223372036854775807/\(s++k43++s_1).size + 1<=9223372036854775807/\true=true/\Q (.one (.str (s++k43++s_1++k14))) S1)/\((n == 4)=false->((n == 5)=true->((n == 5)=true->6 + s_1.size<=9223372036854775807/\(k47++s_1).size + 2<=9223372036854775807/\true=true/\Q
 (.one (.str (k47++s_1++k48))) S1)/\((n == 5)=false->((n == 7)=true->(b1=true->∃ R,hk.1 16 [.ptr c0 0,.one (.i 2)] S1 [] R/\∀ (b : Bool) (S1 : St),R (.one (.bool b)) S1->(b=true->5 + s_1.size<=9223372036854775807/\(k49++s_1).size + 1<=9223372036854775807/\true=true/\Q (.one (.str (k49++s_1++k14))) S1)/\(b=false->6 + s_1.size<=9223372036854775807/\(k50++s_1).size +
 1<=9223372036854775807/\true=true/\Q (.one (.str (k50++s_1++k14))) S1))/\(b1=false->6 + s_1.size<=9223372036854775807/\(k50++s_1).size + 1<=9223372036854775807/\true=true/\Q (.one (.str (k50++s_1++k14))) S1))/\((n == 7)=false->((n == 8)=true->9 + s.size<=9223372036854775807/\∃ R,hk.1 42 [.ptr c0 0,.one (.sl (some S1.toks.length) 3 [.str k_,.str k66,.str k67])] (S1.born (3,9,1))
 [] R/\∀ (s_3 : ByteArray) (S1 : St),R (.one (.str s_3)) S1->(k51++s).size + s_3.size<=9223372036854775807/\(k51++s++s_3).size + 9<=9223372036854775807/\(k51++s++s_3++k52).size + s_2.size<=9223372036854775807/\(k51++s++s_3++k52++s_2).size + 2<=9223372036854775807/\true=true/\Q (.one (.str (k51++s++s_3++k52++s_2++k53))) S1)/\((n == 8)=false->((n == 9)=true->20 +
 s_2.size<=9223372036854775807/\(k54++s_2).size + 2<=9223372036854775807/\true=true/\Q (.one (.str (k54++s_2++k53))) S1)/\((n == 9)=false->((n == 10)=true->15 + s_2.size<=9223372036854775807/\(k55++s_2).size + 2<=9223372036854775807/\true=true/\Q (.one (.str (k55++s_2++k53))) S1)/\((n == 10)=false->((n == 11)=true->9 + s.size<=9223372036854775807/\∃ R,hk.1 42 [.ptr c0 0,.one
 (.sl (some S1.toks.length) 3 [.str k_,.str k68,.str k69])] (S1.born (3,9,1)) [] R/\∀ (s_3 : ByteArray) (S1 : St),R (.one (.str s_3)) S1->(k56++s).size + s_3.size<=9223372036854775807/\(k56++s++s_3).size + 3<=9223372036854775807/\true=true/\Q (.one (.str (k56++s++s_3++k57))) S1)/\((n == 11)=false->((n == 12)=true->9 + s.size<=9223372036854775807/\∃ R,hk.1 42 [.ptr c0 0,.one (.sl
 (some S1.toks.length) 3 [.str k_,.str k68,.str k70])] (S1.born (3,9,1)) [] R/\∀ (s_3 : ByteArray) (S1 : St),R (.one (.str s_3)) S1->(k56++s).size + s_3.size<=9223372036854775807/\(k56++s++s_3).size + 9<=9223372036854775807/\(k56++s++s_3++k52).size + s_2.size<=9223372036854775807/\(k56++s++s_3++k52++s_2).size + 2<=9223372036854775807/\true=true/\Q (.one (.str
 (k56++s++s_3++k52++s_2++k53))) S1)/\((n == 12)=false->((n == 13)=true->15 + s_2.size<=9223372036854775807/\(k58++s_2).size + 2<=9223372036854775807/\true=true/\Q (.one (.str (k58++s_2++k53))) S1)/\((n == 13)=false->((n == 14)=true->15 + s_1.size<=9223372036854775807/\(k59++s_1).size + 1<=9223372036854775807/\true=true/\Q (.one (.str (k59++s_1++k14))) S1)/\((n == 14)=false->4 +
 s.size<=9223372036854775807/\(k42++s).size + 3<=9223372036854775807/\(k42++s++k43).size + s_1.size<=9223372036854775807/\(k42++s++k43++s_1).size + 1<=9223372036854775807/\22 + s_1.size<=9223372036854775807/\(k60++s_1).size + 3<=9223372036854775807/\∃ R,hk.1 42 [.ptr c0 0,.one (.sl (some S1.toks.length) 3 [.str (k42++s++k43++s_1++k14),.str (k60++s_1++k46),.str k71])] (S1.born
 (3,9,1)) [] R/\∀ (s : ByteArray) (S1 : St),R (.one (.str s)) S1->7 + s.size<=9223372036854775807/\true=true/\Q (.one (.str (k61++s))) S1))))))))))/\((n == 5)=false->((n == 6)=true->6 + s_1.size<=9223372036854775807/\(k47++s_1).size + 2<=9223372036854775807/\true=true/\Q (.one (.str (k47++s_1++k48))) S1)/\((n == 6)=false->((n == 7)=true->(b1=true->∃ R,hk.1 16 [.ptr c0 0,.one (.i
 2)] S1 [] R/\∀ (b : Bool) (S1 : St),R (.one (.bool b)) S1->(b=true->5 + s_1.size<=9223372036854775807/\(k49++s_1).size + 1<=9223372036854775807/\true=true/\Q (.one (.str (k49++s_1++k14))) S1)/\(b=false->6 + s_1.size<=9223372036854775807/\(k50++s_1).size + 1<=9223372036854775807/\true=true/\Q (.one (.str (k50++s_1++k14))) S1))/\(b1=false->6 +
 s_1.size<=9223372036854775807/\(k50++s_1).size + 1<=9223372036854775807/\true=true/\Q (.one (.str (k50++s_1++k14))) S1))/\((n == 7)=false->((n == 8)=true->9 + s.size<=9223372036854775807/\∃ R,hk.1 42 [.ptr c0 0,.one (.sl (some S1.toks.length) 3 [.str k_,.str k66,.str k67])] (S1.born (3,9,1)) [] R/\∀ (s_3 : ByteArray) (S1 : St),R (.one (.str s_3)) S1->(k51++s).size +
 s_3.size<=9223372036854775807/\(k51++s++s_3).size + 9<=9223372036854775807/\(k51++s++s_3++k52).size + s_2.size<=9223372036854775807/\(k51++s++s_3++k52++s_2).size + 2<=9223372036854775807/\true=true/\Q (.one (.str (k51++s++s_3++k52++s_2++k53))) S1)/\((n == 8)=false->((n == 9)=true->20 + s_2.size<=9223372036854775807/\(k54++s_2).size + 2<=9223372036854775807/\true=true/\Q (.one
 (.str (k54++s_2++k53))) S1)/\((n == 9)=false->((n == 10)=true->15 + s_2.size<=9223372036854775807/\(k55++s_2).size + 2<=9223372036854775807/\true=true/\Q (.one (.str (k55++s_2++k53))) S1)/\((n == 10)=false->((n == 11)=true->9 + s.size<=9223372036854775807/\∃ R,hk.1 42 [.ptr c0 0,.one (.sl (some S1.toks.length) 3 [.str k_,.str k68,.str k69])] (S1.born (3,9,1)) [] R/\∀ (s_3 :
 ByteArray) (S1 : St),R (.one (.str s_3)) S1->(k56++s).size + s_3.size<=9223372036854775807/\(k56++s++s_3).size + 3<=9223372036854775807/\true=true/\Q (.one (.str (k56++s++s_3++k57))) S1)/\((n == 11)=false->((n == 12)=true->9 + s.size<=9223372036854775807/\∃ R,hk.1 42 [.ptr c0 0,.one (.sl (some S1.toks.length) 3 [.str k_,.str k68,.str k70])] (S1.born (3,9,1)) [] R/\∀ (s_3 :
 ByteArray) (S1 : St),R (.one (.str s_3)) S1->(k56++s).size + s_3.size<=9223372036854775807/\(k56++s++s_3).size + 9<=9223372036854775807/\(k56++s++s_3++k52).size + s_2.size<=9223372036854775807/\(k56++s++s_3++k52++s_2).size + 2<=9223372036854775807/\true=true/\Q (.one (.str (k56++s++s_3++k52++s_2++k53))) S1)/\((n == 12)=false->((n == 13)=true->15 +
 s_2.size<=9223372036854775807/\(k58++s_2).size + 2<=9223372036854775807/\true=true/\Q (.one (.str (k58++s_2++k53))) S1)/\((n == 13)=false->((n == 14)=true->15 + s_1.size<=9223372036854775807/\(k59++s_1).size + 1<=9223372036854775807/\true=true/\Q (.one (.str (k59++s_1++k14))) S1)/\((n == 14)=false->4 + s.size<=9223372036854775807/\(k42++s).size +
 3<=9223372036854775807/\(k42++s++k43).size + s_1.size<=9223372036854775807/\(k42++s++k43++s_1).size + 1<=9223372036854775807/\22 + s_1.size<=9223372036854775807/\(k60++s_1).size + 3<=9223372036854775807/\∃ R,hk.1 42 [.ptr c0 0,.one (.sl (some S1.toks.length) 3 [.str (k42++s++k43++s_1++k14),.str (k60++s_1++k46),.str k71])] (S1.born (3,9,1)) [] R/\∀ (s : ByteArray) (S1 : St),R
 (.one (.str s)) S1->7 + s.size<=9223372036854775807/\true=true/\Q (.one (.str (k61++s))) S1)))))))))))))))))/\(b1=false->((n == 0)=true->((n == 0)=true->4 + s.size<=9223372036854775807/\(k42++s).size + 3<=9223372036854775807/\(k42++s++k43).size + s_1.size<=9223372036854775807/\(k42++s++k43++s_1).size + 1<=9223372036854775807/\true=true/\Q (.one (.str (k42++s++k43++s_1++k14)))
 S1)/\((n == 0)=false->((n == 3)=true->∃ R,hk.1 42 [.ptr c0 0,.one (.sl (some S1.toks.length) 2 [.str k34,.str k35])] (S1.born (2,9,1)) [] R/\∀ (s : ByteArray) (S1 : St),R (.one (.str s)) S1->9 + s.size<=9223372036854775807/\(k44++s).size + 12<=9223372036854775807/\(k44++s++k45).size + s_1.size<=9223372036854775807/\(k44++s++k45++s_1).size + 3<=9223372036854775807/\true=true/\Q
 (.one (.str (k44++s++k45++s_1++k46))) S1)/\((n == 3)=false->((n == 4)=true->s.size + 3<=9223372036854775807/\(s++k43).size + s_1.size<=9223372036854775807/\(s++k43++s_1).size + 1<=9223372036854775807/\true=true/\Q (.one (.str (s++k43++s_1++k14))) S1)/\((n == 4)=false->((n == 5)=true->((n == 5)=true->6 + s_1.size<=9223372036854775807/\(k47++s_1).size +
 2<=9223372036854775807/\true=true/\Q (.one (.str (k47++s_1++k48))) S1)/\((n == 5)=false->((n == 7)=true->(b1=true->∃ R,hk.1 16 [.ptr c0 0,.one (.i 2)] S1 [] R/\∀ (b : Bool) (S1 : St),R (.one (.bool b)) S1->(b=true->5 + s_1.size<=9223372036854775807/\(k49++s_1).size + 1<=9223372036854775807/\true=true/\Q (.one (.str (k49++s_1++k14))) S1)/\(b=false->6 +
 s_1.size<=9223372036854775807/\(k50++s_1).size + 1<=9223372036854775807/\true=true/\Q (.one (.str (k50++s_1++k14))) S1))/\(b1=false->6 + s_1.size<=9223372036854775807/\(k50++s_1).size + 1<=9223372036854775807/\true=true/\Q (.one (.str (k50++s_1++k14))) S1))/\((n == 7)=false->((n == 8)=true->9 + s.size<=9223372036854775807/\∃ R,hk.1 42 [.ptr c0 0,.one (.sl (some S1.toks.length)
 3 [.str k_,.str k66,.str k67])] (S1.born (3,9,1)) [] R/\∀ (s_3 : ByteArray) (S1 : St),R (.one (.str s_3)) S1->(k51++s).size + s_3.size<=9223372036854775807/\(k51++s++s_3).size + 9<=9223372036854775807/\(k51++s++s_3++k52).size + s_2.size<=9223372036854775807/\(k51++s++s_3++k52++s_2).size + 2<=9223372036854775807/\true=true/\Q (.one (.str (k51++s++s_3++k52++s_2++k53))) S1)/\((n
 == 8)=false->((n == 9)=true->20 + s_2.size<=9223372036854775807/\(k54++s_2).size + 2<=9223372036854775807/\true=true/\Q (.one (.str (k54++s_2++k53))) S1)/\((n == 9)=false->((n == 10)=true->15 + s_2.size<=9223372036854775807/\(k55++s_2).size + 2<=9223372036854775807/\true=true/\Q (.one (.str (k55++s_2++k53))) S1)/\((n == 10)=false->((n == 11)=true->9 +
 s.size<=9223372036854775807/\∃ R,hk.1 42 [.ptr c0 0,.one (.sl (some S1.toks.length) 3 [.str k_,.str k68,.str k69])] (S1.born (3,9,1)) [] R/\∀ (s_3 : ByteArray) (S1 : St),R (.one (.str s_3)) S1->(k56++s).size + s_3.size<=9223372036854775807/\(k56++s++s_3).size + 3<=9223372036854775807/\true=true/\Q (.one (.str (k56++s++s_3++k57))) S1)/\((n == 11)=false->((n == 12)=true->9 +
 s.size<=9223372036854775807/\∃ R,hk.1 42 [.ptr c0 0,.one (.sl (some S1.toks.length) 3 [.str k_,.str k68,.str k70])] (S1.born (3,9,1)) [] R/\∀ (s_3 : ByteArray) (S1 : St),R (.one (.str s_3)) S1->(k56++s).size + s_3.size<=9223372036854775807/\(k56++s++s_3).size + 9<=9223372036854775807/\(k56++s++s_3++k52).size + s_2.size<=9223372036854775807/\(k56++s++s_3++k52++s_2).size +
 2<=9223372036854775807/\true=true/\Q (.one (.str (k56++s++s_3++k52++s_2++k53))) S1)/\((n == 12)=false->((n == 13)=true->15 + s_2.size<=9223372036854775807/\(k58++s_2).size + 2<=9223372036854775807/\true=true/\Q (.one (.str (k58++s_2++k53))) S1)/\((n == 13)=false->((n == 14)=true->15 + s_1.size<=9223372036854775807/\(k59++s_1).size + 1<=9223372036854775807/\true=true/\Q (.one
 (.str (k59++s_1++k14))) S1)/\((n == 14)=false->4 + s.size<=9223372036854775807/\(k42++s).size + 3<=9223372036854775807/\(k42++s++k43).size + s_1.size<=9223372036854775807/\(k42++s++k43++s_1).size + 1<=9223372036854775807/\22 + s_1.size<=9223372036854775807/\(k60++s_1).size + 3<=9223372036854775807/\∃ R,hk.1 42 [.ptr c0 0,.one (.sl (some S1.toks.length) 3 [.str
 (k42++s++k43++s_1++k14),.str (k60++s_1++k46),.str k71])] (S1.born (3,9,1)) [] R/\∀ (s : ByteArray) (S1 : St),R (.one (.str s)) S1->7 + s.size<=9223372036854775807/\true=true/\Q (.one (.str (k61++s))) S1))))))))))/\((n == 5)=false->((n == 6)=true->6 + s_1.size<=9223372036854775807/\(k47++s_1).size + 2<=9223372036854775807/\true=true/\Q (.one (.str (k47++s_1++k48))) S1)/\((n ==
 6)=false->((n == 7)=true->(b1=true->∃ R,hk.1 16 [.ptr c0 0,.one (.i 2)] S1 [] R/\∀ (b : Bool) (S1 : St),R (.one (.bool b)) S1->(b=true->5 + s_1.size<=9223372036854775807/\(k49++s_1).size + 1<=9223372036854775807/\true=true/\Q (.one (.str (k49++s_1++k14))) S1)/\(b=false->6 + s_1.size<=9223372036854775807/\(k50++s_1).size + 1<=9223372036854775807/\true=true/\Q (.one (.str
 (k50++s_1++k14))) S1))/\(b1=false->6 + s_1.size<=9223372036854775807/\(k50++s_1).size + 1<=9223372036854775807/\true=true/\Q (.one (.str (k50++s_1++k14))) S1))/\((n == 7)=false->((n == 8)=true->9 + s.size<=9223372036854775807/\∃ R,hk.1 42 [.ptr c0 0,.one (.sl (some S1.toks.length) 3 [.str k_,.str k66,.str k67])] (S1.born (3,9,1)) [] R/\∀ (s_3 : ByteArray) (S1 : St),R (.one
 (.str s_3)) S1->(k51++s).size + s_3.size<=9223372036854775807/\(k51++s++s_3).size + 9<=9223372036854775807/\(k51++s++s_3++k52).size + s_2.size<=9223372036854775807/\(k51++s++s_3++k52++s_2).size + 2<=9223372036854775807/\true=true/\Q (.one (.str (k51++s++s_3++k52++s_2++k53))) S1)/\((n == 8)=false->((n == 9)=true->20 + s_2.size<=9223372036854775807/\(k54++s_2).size +
 2<=9223372036854775807/\true=true/\Q (.one (.str (k54++s_2++k53))) S1)/\((n == 9)=false->((n == 10)=true->15 + s_2.size<=9223372036854775807/\(k55++s_2).size + 2<=9223372036854775807/\true=true/\Q (.one (.str (k55++s_2++k53))) S1)/\((n == 10)=false->((n == 11)=true->9 + s.size<=9223372036854775807/\∃ R,hk.1 42 [.ptr c0 0,.one (.sl (some S1.toks.length) 3 [.str k_,.str k68,.str
 k69])] (S1.born (3,9,1)) [] R/\∀ (s_3 : ByteArray) (S1 : St),R (.one (.str s_3)) S1->(k56++s).size + s_3.size<=9223372036854775807/\(k56++s++s_3).size + 3<=9223372036854775807/\true=true/\Q (.one (.str (k56++s++s_3++k57))) S1)/\((n == 11)=false->((n == 12)=true->9 + s.size<=9223372036854775807/\∃ R,hk.1 42 [.ptr c0 0,.one (.sl (some S1.toks.length) 3 [.str k_,.str k68,.str
 k70])] (S1.born (3,9,1)) [] R/\∀ (s_3 : ByteArray) (S1 : St),R (.one (.str s_3)) S1->(k56++s).size + s_3.size<=9223372036854775807/\(k56++s++s_3).size + 9<=9223372036854775807/\(k56++s++s_3++k52).size + s_2.size<=9223372036854775807/\(k56++s++s_3++k52++s_2).size + 2<=9223372036854775807/\true=true/\Q (.one (.str (k56++s++s_3++k52++s_2++k53))) S1)/\((n == 12)=false->((n ==
 13)=true->15 + s_2.size<=9223372036854775807/\(k58++s_2).size + 2<=9223372036854775807/\true=true/\Q (.one (.str (k58++s_2++k53))) S1)/\((n == 13)=false->((n == 14)=true->15 + s_1.size<=9223372036854775807/\(k59++s_1).size + 1<=9223372036854775807/\true=true/\Q (.one (.str (k59++s_1++k14))) S1)/\((n == 14)=false->4 + s.size<=9223372036854775807/\(k42++s).size +
 3<=9223372036854775807/\(k42++s++k43).size + s_1.size<=9223372036854775807/\(k42++s++k43++s_1).size + 1<=9223372036854775807/\22 + s_1.size<=9223372036854775807/\(k60++s_1).size + 3<=9223372036854775807/\∃ R,hk.1 42 [.ptr c0 0,.one (.sl (some S1.toks.length) 3 [.str (k42++s++k43++s_1++k14),.str (k60++s_1++k46),.str k71])] (S1.born (3,9,1)) [] R/\∀ (s : ByteArray) (S1 : St),R
 (.one (.str s)) S1->7 + s.size<=9223372036854775807/\true=true/\Q (.one (.str (k61++s))) S1))))))))))))))/\((n == 0)=false->((n == 1)=true->((n == 1)=true->4 + s.size<=9223372036854775807/\(k42++s).size + 3<=9223372036854775807/\(k42++s++k43).size + s_1.size<=9223372036854775807/\(k42++s++k43++s_1).size + 1<=9223372036854775807/\true=true/\Q (.one (.str
 (k42++s++k43++s_1++k14))) S1)/\((n == 1)=false->((n == 3)=true->∃ R,hk.1 42 [.ptr c0 0,.one (.sl (some S1.toks.length) 2 [.str k34,.str k35])] (S1.born (2,9,1)) [] R/\∀ (s : ByteArray) (S1 : St),R (.one (.str s)) S1->9 + s.size<=9223372036854775807/\(k44++s).size + 12<=9223372036854775807/\(k44++s++k45).size + s_1.size<=9223372036854775807/\(k44++s++k45++s_1).size +
 3<=9223372036854775807/\true=true/\Q (.one (.str (k44++s++k45++s_1++k46))) S1)/\((n == 3)=false->((n == 4)=true->s.size + 3<=9223372036854775807/\(s++k43).size + s_1.size<=9223372036854775807/\(s++k43++s_1).size + 1<=9223372036854775807/\true=true/\Q (.one (.str (s++k43++s_1++k14))) S1)/\((n == 4)=false->((n == 5)=true->((n == 5)=true->6 +
 s_1.size<=9223372036854775807/\(k47++s_1).size + 2<=9223372036854775807/\true=true/\Q (.one (.str (k47++s_1++k48))) S1)/\((n == 5)=false->((n == 7)=true->(b1=true->∃ R,hk.1 16 [.ptr c0 0,.one (.i 2)] S1 [] R/\∀ (b : Bool) (S1 : St),R (.one (.bool b)) S1->(b=true->5 + s_1.size<=9223372036854775807/\(k49++s_1).size + 1<=9223372036854775807/\true=true/\Q (.one (.str
 (k49++s_1++k14))) S1)/\(b=false->6 + s_1.size<=9223372036854775807/\(k50++s_1).size + 1<=9223372036854775807/\true=true/\Q (.one (.str (k50++s_1++k14))) S1))/\(b1=false->6 + s_1.size<=9223372036854775807/\(k50++s_1).size + 1<=9223372036854775807/\true=true/\Q (.one (.str (k50++s_1++k14))) S1))/\((n == 7)=false->((n == 8)=true->9 + s.size<=9223372036854775807/\∃ R,hk.1 42 [.ptr
 c0 0,.one (.sl (some S1.toks.length) 3 [.str k_,.str k66,.str k67])] (S1.born (3,9,1)) [] R/\∀ (s_3 : ByteArray) (S1 : St),R (.one (.str s_3)) S1->(k51++s).size + s_3.size<=9223372036854775807/\(k51++s++s_3).size + 9<=9223372036854775807/\(k51++s++s_3++k52).size + s_2.size<=9223372036854775807/\(k51++s++s_3++k52++s_2).size + 2<=9223372036854775807/\true=true/\Q (.one (.str
 (k51++s++s_3++k52++s_2++k53))) S1)/\((n == 8)=false->((n == 9)=true->20 + s_2.size<=9223372036854775807/\(k54++s_2).size + 2<=9223372036854775807/\true=true/\Q (.one (.str (k54++s_2++k53))) S1)/\((n == 9)=false->((n == 10)=true->15 + s_2.size<=9223372036854775807/\(k55++s_2).size + 2<=9223372036854775807/\true=true/\Q (.one (.str (k55++s_2++k53))) S1)/\((n == 10)=false->((n ==
 11)=true->9 + s.size<=9223372036854775807/\∃ R,hk.1 42 [.ptr c0 0,.one (.sl (some S1.toks.length) 3 [.str k_,.str k68,.str k69])] (S1.born (3,9,1)) [] R/\∀ (s_3 : ByteArray) (S1 : St),R (.one (.str s_3)) S1->(k56++s).size + s_3.size<=9223372036854775807/\(k56++s++s_3).size + 3<=9223372036854775807/\true=true/\Q (.one (.str (k56++s++s_3++k57))) S1)/\((n == 11)=false->((n ==
 12)=true->9 + s.size<=9223372036854775807/\∃ R,hk.1 42 [.ptr c0 0,.one (.sl (some S1.toks.length) 3 [.str k_,.str k68,.str k70])] (S1.born (3,9,1)) [] R/\∀ (s_3 : ByteArray) (S1 : St),R (.one (.str s_3)) S1->(k56++s).size + s_3.size<=9223372036854775807/\(k56++s++s_3).size + 9<=9223372036854775807/\(k56++s++s_3++k52).size +
 s_2.size<=9223372036854775807/\(k56++s++s_3++k52++s_2).size + 2<=9223372036854775807/\true=true/\Q (.one (.str (k56++s++s_3++k52++s_2++k53))) S1)/\((n == 12)=false->((n == 13)=true->15 + s_2.size<=9223372036854775807/\(k58++s_2).size + 2<=9223372036854775807/\true=true/\Q (.one (.str (k58++s_2++k53))) S1)/\((n == 13)=false->((n == 14)=true->15 +
 s_1.size<=9223372036854775807/\(k59++s_1).size + 1<=9223372036854775807/\true=true/\Q (.one (.str (k59++s_1++k14))) S1)/\((n == 14)=false->4 + s.size<=9223372036854775807/\(k42++s).size + 3<=9223372036854775807/\(k42++s++k43).size + s_1.size<=9223372036854775807/\(k42++s++k43++s_1).size + 1<=9223372036854775807/\22 + s_1.size<=9223372036854775807/\(k60++s_1).size +
 3<=9223372036854775807/\∃ R,hk.1 42 [.ptr c0 0,.one (.sl (some S1.toks.length) 3 [.str (k42++s++k43++s_1++k14),.str (k60++s_1++k46),.str k71])] (S1.born (3,9,1)) [] R/\∀ (s : ByteArray) (S1 : St),R (.one (.str s)) S1->7 + s.size<=9223372036854775807/\true=true/\Q (.one (.str (k61++s))) S1))))))))))/\((n == 5)=false->((n == 6)=true->6 +
 s_1.size<=9223372036854775807/\(k47++s_1).size + 2<=9223372036854775807/\true=true/\Q (.one (.str (k47++s_1++k48))) S1)/\((n == 6)=false->((n == 7)=true->(b1=true->∃ R,hk.1 16 [.ptr c0 0,.one (.i 2)] S1 [] R/\∀ (b : Bool) (S1 : St),R (.one (.bool b)) S1->(b=true->5 + s_1.size<=9223372036854775807/\(k49++s_1).size + 1<=9223372036854775807/\true=true/\Q (.one (.str
 (k49++s_1++k14))) S1)/\(b=false->6 + s_1.size<=9223372036854775807/\(k50++s_1).size + 1<=9223372036854775807/\true=true/\Q (.one (.str (k50++s_1++k14))) S1))/\(b1=false->6 + s_1.size<=9223372036854775807/\(k50++s_1).size + 1<=9223372036854775807/\true=true/\Q (.one (.str (k50++s_1++k14))) S1))/\((n == 7)=false->((n == 8)=true->9 + s.size<=9223372036854775807/\∃ R,hk.1 42 [.ptr
 c0 0,.one (.sl (some S1.toks.length) 3 [.str k_,.str k66,.str k67])] (S1.born (3,9,1)) [] R/\∀ (s_3 : ByteArray) (S1 : St),R (.one (.str s_3)) S1->(k51++s).size + s_3.size<=9223372036854775807/\(k51++s++s_3).size + 9<=9223372036854775807/\(k51++s++s_3++k52).size + s_2.size<=9223372036854775807/\(k51++s++s_3++k52++s_2).size + 2<=9223372036854775807/\true=true/\Q (.one (.str
 (k51++s++s_3++k52++s_2++k53))) S1)/\((n == 8)=false->((n == 9)=true->20 + s_2.size<=9223372036854775807/\(k54++s_2).size + 2<=9223372036854775807/\true=true/\Q (.one (.str (k54++s_2++k53))) S1)/\((n == 9)=false->((n == 10)=true->15 + s_2.size<=9223372036854775807/\(k55++s_2).size + 2<=9223372036854775807/\true=true/\Q (.one (.str (k55++s_2++k53))) S1)/\((n == 10)=false->((n ==
 11)=true->9 + s.size<=9223372036854775807/\∃ R,hk.1 42 [.ptr c0 0,.one (.sl (some S1.toks.length) 3 [.str k_,.str k68,.str k69])] (S1.born (3,9,1)) [] R/\∀ (s_3 : ByteArray) (S1 : St),R (.one (.str s_3)) S1->(k56++s).size + s_3.size<=9223372036854775807/\(k56++s++s_3).size + 3<=9223372036854775807/\true=true/\Q (.one (.str (k56++s++s_3++k57))) S1)/\((n == 11)=false->((n ==
 12)=true->9 + s.size<=9223372036854775807/\∃ R,hk.1 42 [.ptr c0 0,.one (.sl (some S1.toks.length) 3 [.str k_,.str k68,.str k70])] (S1.born (3,9,1)) [] R/\∀ (s_3 : ByteArray) (S1 : St),R (.one (.str s_3)) S1->(k56++s).size + s_3.size<=9223372036854775807/\(k56++s++s_3).size + 9<=9223372036854775807/\(k56++s++s_3++k52).size +
 s_2.size<=9223372036854775807/\(k56++s++s_3++k52++s_2).size + 2<=9223372036854775807/\true=true/\Q (.one (.str (k56++s++s_3++k52++s_2++k53))) S1)/\((n == 12)=false->((n == 13)=true->15 + s_2.size<=9223372036854775807/\(k58++s_2).size + 2<=9223372036854775807/\true=true/\Q (.one (.str (k58++s_2++k53))) S1)/\((n == 13)=false->((n == 14)=true->15 +
 s_1.size<=9223372036854775807/\(k59++s_1).size + 1<=9223372036854775807/\true=true/\Q (.one (.str (k59++s_1++k14))) S1)/\((n == 14)=false->4 + s.size<=9223372036854775807/\(k42++s).size + 3<=9223372036854775807/\(k42++s++k43).size + s_1.size<=9223372036854775807/\(k42++s++k43++s_1).size + 1<=9223372036854775807/\22 + s_1.size<=9223372036854775807/\(k60++s_1).size +
 3<=9223372036854775807/\∃ R,hk.1 42 [.ptr c0 0,.one (.sl (some S1.toks.length) 3 [.str (k42++s++k43++s_1++k14),.str (k60++s_1++k46),.str k71])] (S1.born (3,9,1)) [] R/\∀ (s : ByteArray) (S1 : St),R (.one (.str s)) S1->7 + s.size<=9223372036854775807/\true=true/\Q (.one (.str (k61++s))) S1))))))))))))))/\((n == 1)=false->((n == 2)=true->4 +
 s.size<=9223372036854775807/\(k42++s).size + 3<=9223372036854775807/\(k42++s++k43).size + s_1.size<=9223372036854775807/\(k42++s++k43++s_1).size + 1<=9223372036854775807/\true=true/\Q (.one (.str (k42++s++k43++s_1++k14))) S1)/\((n == 2)=false->((n == 3)=true->∃ R,hk.1 42 [.ptr c0 0,.one (.sl (some S1.toks.length) 2 [.str k34,.str k35])] (S1.born (2,9,1)) [] R/\∀ (s : ByteArray)
 (S1 : St),R (.one (.str s)) S1->9 + s.size<=9223372036854775807/\(k44++s).size + 12<=9223372036854775807/\(k44++s++k45).size + s_1.size<=9223372036854775807/\(k44++s++k45++s_1).size + 3<=9223372036854775807/\true=true/\Q (.one (.str (k44++s++k45++s_1++k46))) S1)/\((n == 3)=false->((n == 4)=true->s.size + 3<=9223372036854775807/\(s++k43).size +
 s_1.size<=9223372036854775807/\(s++k43++s_1).size + 1<=9223372036854775807/\true=true/\Q (.one (.str (s++k43++s_1++k14))) S1)/\((n == 4)=false->((n == 5)=true->((n == 5)=true->6 + s_1.size<=9223372036854775807/\(k47++s_1).size + 2<=9223372036854775807/\true=true/\Q (.one (.str (k47++s_1++k48))) S1)/\((n == 5)=false->((n == 7)=true->(b1=true->∃ R,hk.1 16 [.ptr c0 0,.one (.i 2)]
 S1 [] R/\∀ (b : Bool) (S1 : St),R (.one (.bool b)) S1->(b=true->5 + s_1.size<=9223372036854775807/\(k49++s_1).size + 1<=9223372036854775807/\true=true/\Q (.one (.str (k49++s_1++k14))) S1)/\(b=false->6 + s_1.size<=9223372036854775807/\(k50++s_1).size + 1<=9223372036854775807/\true=true/\Q (.one (.str (k50++s_1++k14))) S1))/\(b1=false->6 +
 s_1.size<=9223372036854775807/\(k50++s_1).size + 1<=9223372036854775807/\true=true/\Q (.one (.str (k50++s_1++k14))) S1))/\((n == 7)=false->((n == 8)=true->9 + s.size<=9223372036854775807/\∃ R,hk.1 42 [.ptr c0 0,.one (.sl (some S1.toks.length) 3 [.str k_,.str k66,.str k67])] (S1.born (3,9,1)) [] R/\∀ (s_3 : ByteArray) (S1 : St),R (.one (.str s_3)) S1->(k51++s).size +
 s_3.size<=9223372036854775807/\(k51++s++s_3).size + 9<=9223372036854775807/\(k51++s++s_3++k52).size + s_2.size<=9223372036854775807/\(k51++s++s_3++k52++s_2).size + 2<=9223372036854775807/\true=true/\Q (.one (.str (k51++s++s_3++k52++s_2++k53))) S1)/\((n == 8)=false->((n == 9)=true->20 + s_2.size<=9223372036854775807/\(k54++s_2).size + 2<=9223372036854775807/\true=true/\Q (.one
 (.str (k54++s_2++k53))) S1)/\((n == 9)=false->((n == 10)=true->15 + s_2.size<=9223372036854775807/\(k55++s_2).size + 2<=9223372036854775807/\true=true/\Q (.one (.str (k55++s_2++k53))) S1)/\((n == 10)=false->((n == 11)=true->9 + s.size<=9223372036854775807/\∃ R,hk.1 42 [.ptr c0 0,.one (.sl (some S1.toks.length) 3 [.str k_,.str k68,.str k69])] (S1.born (3,9,1)) [] R/\∀ (s_3 :
 ByteArray) (S1 : St),R (.one (.str s_3)) S1->(k56++s).size + s_3.size<=9223372036854775807/\(k56++s++s_3).size + 3<=9223372036854775807/\true=true/\Q (.one (.str (k56++s++s_3++k57))) S1)/\((n == 11)=false->((n == 12)=true->9 + s.size<=9223372036854775807/\∃ R,hk.1 42 [.ptr c0 0,.one (.sl (some S1.toks.length) 3 [.str k_,.str k68,.str k70])] (S1.born (3,9,1)) [] R/\∀ (s_3 :
 ByteArray) (S1 : St),R (.one (.str s_3)) S1->(k56++s).size + s_3.size<=9223372036854775807/\(k56++s++s_3).size + 9<=9223372036854775807/\(k56++s++s_3++k52).size + s_2.size<=9223372036854775807/\(k56++s++s_3++k52++s_2).size + 2<=9223372036854775807/\true=true/\Q (.one (.str (k56++s++s_3++k52++s_2++k53))) S1)/\((n == 12)=false->((n == 13)=true->15 +
 s_2.size<=9223372036854775807/\(k58++s_2).size + 2<=9223372036854775807/\true=true/\Q (.one (.str (k58++s_2++k53))) S1)/\((n == 13)=false->((n == 14)=true->15 + s_1.size<=9223372036854775807/\(k59++s_1).size + 1<=9223372036854775807/\true=true/\Q (.one (.str (k59++s_1++k14))) S1)/\((n == 14)=false->4 + s.size<=9223372036854775807/\(k42++s).size +
 3<=9223372036854775807/\(k42++s++k43).size + s_1.size<=9223372036854775807/\(k42++s++k43++s_1).size + 1<=9223372036854775807/\22 + s_1.size<=9223372036854775807/\(k60++s_1).size + 3<=9223372036854775807/\∃ R,hk.1 42 [.ptr c0 0,.one (.sl (some S1.toks.length) 3 [.str (k42++s++k43++s_1++k14),.str (k60++s_1++k46),.str k71])] (S1.born (3,9,1)) [] R/\∀ (s : ByteArray) (S1 : St),R
 (.one (.str s)) S1->7 + s.size<=9223372036854775807/\true=true/\Q (.one (.str (k61++s))) S1))))))))))/\((n == 5)=false->((n == 6)=true->6 + s_1.size<=9223372036854775807/\(k47++s_1).size + 2<=9223372036854775807/\true=true/\Q (.one (.str (k47++s_1++k48))) S1)/\((n == 6)=false->((n == 7)=true->(b1=true->∃ R,hk.1 16 [.ptr c0 0,.one (.i 2)] S1 [] R/\∀ (b : Bool) (S1 : St),R (.one
 (.bool b)) S1->(b=true->5 + s_1.size<=9223372036854775807/\(k49++s_1).size + 1<=9223372036854775807/\true=true/\Q (.one (.str (k49++s_1++k14))) S1)/\(b=false->6 + s_1.size<=9223372036854775807/\(k50++s_1).size + 1<=9223372036854775807/\true=true/\Q (.one (.str (k50++s_1++k14))) S1))/\(b1=false->6 + s_1.size<=9223372036854775807/\(k50++s_1).size +
 1<=9223372036854775807/\true=true/\Q (.one (.str (k50++s_1++k14))) S1))/\((n == 7)=false->((n == 8)=true->9 + s.size<=9223372036854775807/\∃ R,hk.1 42 [.ptr c0 0,.one (.sl (some S1.toks.length) 3 [.str k_,.str k66,.str k67])] (S1.born (3,9,1)) [] R/\∀ (s_3 : ByteArray) (S1 : St),R (.one (.str s_3)) S1->(k51++s).size + s_3.size<=9223372036854775807/\(k51++s++s_3).size +
 9<=9223372036854775807/\(k51++s++s_3++k52).size + s_2.size<=9223372036854775807/\(k51++s++s_3++k52++s_2).size + 2<=9223372036854775807/\true=true/\Q (.one (.str (k51++s++s_3++k52++s_2++k53))) S1)/\((n == 8)=false->((n == 9)=true->20 + s_2.size<=9223372036854775807/\(k54++s_2).size + 2<=9223372036854775807/\true=true/\Q (.one (.str (k54++s_2++k53))) S1)/\((n == 9)=false->((n ==
 10)=true->15 + s_2.size<=9223372036854775807/\(k55++s_2).size + 2<=9223372036854775807/\true=true/\Q (.one (.str (k55++s_2++k53))) S1)/\((n == 10)=false->((n == 11)=true->9 + s.size<=9223372036854775807/\∃ R,hk.1 42 [.ptr c0 0,.one (.sl (some S1.toks.length) 3 [.str k_,.str k68,.str k69])] (S1.born (3,9,1)) [] R/\∀ (s_3 : ByteArray) (S1 : St),R (.one (.str s_3))
 S1->(k56++s).size + s_3.size<=9223372036854775807/\(k56++s++s_3).size + 3<=9223372036854775807/\true=true/\Q (.one (.str (k56++s++s_3++k57))) S1)/\((n == 11)=false->((n == 12)=true->9 + s.size<=9223372036854775807/\∃ R,hk.1 42 [.ptr c0 0,.one (.sl (some S1.toks.length) 3 [.str k_,.str k68,.str k70])] (S1.born (3,9,1)) [] R/\∀ (s_3 : ByteArray) (S1 : St),R (.one (.str s_3))
 S1->(k56++s).size + s_3.size<=9223372036854775807/\(k56++s++s_3).size + 9<=9223372036854775807/\(k56++s++s_3++k52).size + s_2.size<=9223372036854775807/\(k56++s++s_3++k52++s_2).size + 2<=9223372036854775807/\true=true/\Q (.one (.str (k56++s++s_3++k52++s_2++k53))) S1)/\((n == 12)=false->((n == 13)=true->15 + s_2.size<=9223372036854775807/\(k58++s_2).size +
 2<=9223372036854775807/\true=true/\Q (.one (.str (k58++s_2++k53))) S1)/\((n == 13)=false->((n == 14)=true->15 + s_1.size<=9223372036854775807/\(k59++s_1).size + 1<=9223372036854775807/\true=true/\Q (.one (.str (k59++s_1++k14))) S1)/\((n == 14)=false->4 + s.size<=9223372036854775807/\(k42++s).size + 3<=9223372036854775807/\(k42++s++k43).size +
 s_1.size<=9223372036854775807/\(k42++s++k43++s_1).size + 1<=9223372036854775807/\22 + s_1.size<=9223372036854775807/\(k60++s_1).size + 3<=9223372036854775807/\∃ R,hk.1 42 [.ptr c0 0,.one (.sl (some S1.toks.length) 3 [.str (k42++s++k43++s_1++k14),.str (k60++s_1++k46),.str k71])] (S1.born (3,9,1)) [] R/\∀ (s : ByteArray) (S1 : St),R (.one (.str s)) S1->7 +
 s.size<=9223372036854775807/\true=true/\Q (.one (.str (k61++s)))
 S1)))))))))))))))))
 := by intros; kernel_rfl
theorem v40 : ∀ (hk : Hk) (plans : Nat->Plan) (c0 : Nat) (n1 : Int) (b2 : Bool) (S : St) (Q : AV->St->Prop),wFn true hk Tryz.prog (tabOf Tryz.prog) plans false 40 [.ptr c0 0,.one (.i n1),.one (.bool b2)] S Q=(true=true/\in64 (n1 + 1)/\∃ R,hk.1 41 [.ptr c0 0,.one (.i (n1 + 1))] S [] R/\∀ (n : Int) (S1 : St),R (.one (.i n)) S1->hk.2 36 (codeOf Tryz.prog 40 [1,1,0,1,0,0]) [.blk
 0,.seq (codeOf Tryz.prog 40 [1,1,1])] (wEnd (tabOf Tryz.prog) Tryz.f40 false S.boxes.length Q) [(8,.v (.one (.i n))),(12,.v (.one (.i n))),(11,.v (.one (.i (n1 + 1)))),(10,.v (.one (.i n1))),(9,.v (.ptr c0 0)),(7,.v (.one (.str k_))),(6,.v (.one (.str k_))),(0,.v (.ptr c0 0)),(1,.v (.one (.i n1))),(2,.v (.one (.bool b2)))] S1
 [])
 := by intros; kernel_rfl
theorem b40_0 : ∀ (hk : Hk) (plans : Nat->Plan) (c0 : Nat) (b2 : Bool) (n8 : Int) (s7 : ByteArray) (S : St) (K : QW),wCode true hk Tryz.prog (tabOf Tryz.prog) 36 plans 1000 (codeOf Tryz.prog 40 [1,1,0,1,0,0]) [] (fun e env S L => K e (restr [8,7,6,0,2] env) S L) [(8,.v (.one (.i n8))),(7,.v (.one (.str s7))),(6,.v (.one (.str k_))),(0,.v (.ptr c0 0)),(2,.v (.one (.bool b2)))] S
 []=((decide (n8 > 0)=true->∃ R,hk.1 66 [.ptr c0 0,.one (.bool b2)] S [] R/\∀ (s : ByteArray) (S1 : St),R (.one (.str s)) S1->s7.size + s.size<=9223372036854775807/\(s7++s).size + 1<=9223372036854775807/\in64 (n8 - 1)/\K .normal [(8,.v (.one (.i (n8 - 1)))),(7,.v (.one (.str (s7++s++k72)))),(6,.v (.one (.str k_))),(0,.v (.ptr c0 0)),(2,.v (.one (.bool b2)))] S1 [])/\(decide (n8
 > 0)=false->K (.exit 0) [(8,.v (.one (.i n8))),(7,.v (.one (.str s7))),(6,.v (.one (.str k_))),(0,.v (.ptr c0 0)),(2,.v (.one (.bool b2)))] S
 []))
 := by intros; kernel_rfl
theorem x40_0 : ∀ (hk : Hk) (plans : Nat->Plan) (c0 : Nat) (b2 : Bool) (S : St) (Q : AV->St->Prop) (n8 : Int) (s7 : ByteArray) (S_1 : St),wCode.wEx true hk Tryz.prog (tabOf Tryz.prog) 36 plans 1000 (.exit 0) [.blk 0,.seq (codeOf Tryz.prog 40 [1,1,1])] (wEnd (tabOf Tryz.prog) Tryz.f40 false S.boxes.length Q) [(8,.v (.one (.i n8))),(7,.v (.one (.str s7))),(6,.v (.one (.str
 k_))),(0,.v (.ptr c0 0)),(2,.v (.one (.bool b2)))] S_1 []=∃ R,hk.1 16 [.ptr c0 0,.one (.i 6)] S_1 [] R/\∀ (b : Bool) (S1 : St),R (.one (.bool b)) S1->(b=true->∃ R,hk.1 67 [.ptr c0 0,.one (.str s7)] S1 [] R/\∀ (s : ByteArray) (S1 : St),R (.one (.str s)) S1->true=true/\Q (.one (.str s)) S1)/\(b=false->∃ R,hk.1 16 [.ptr c0 0,.one (.i 15)] S1 [] R/\∀ (b : Bool) (S1 : St),R (.one
 (.bool b)) S1->(b=true->∃ R,hk.1 42 [.ptr c0 0,.one (.sl (some S1.toks.length) 11 [.str k73,.str k74,.str k75,.str k76,.str k77,.str k78,.str k18,.str k79,.str k80,.str k81,.str k82])] (S1.born (11,9,1)) [] R/\∀ (s : ByteArray) (S1 : St),R (.one (.str s)) S1->s7.size + s.size<=9223372036854775807/\true=true/\Q (.one (.str (s7++s))) S1)/\(b=false->true=true/\Q (.one (.str s7))
 S1))
 := by intros; kernel_rfl
end Go.Proofs.YtkdickfiifpblaaGreatDoor.D
namespace Go.Proofs.YtkdickfiifpblaaGreatDoor.D
open Go Go.Den Go.Proofs
set_option maxRecDepth 100000
variable {w0 : World}
theorem bsz (l : List UInt8) : (ByteArray.mk (Array.mk l)).size = l.length := rfl
theorem l4Expr_c (k : Nat) (x : AL) (hx : Src x) : ∀ d : Nat, ∀ n1 : Int, n1 = d → d ≤ 2 → ∀ b, ConC w0 85 [.ptr k 0, int n1, bool b] k x (rT (40 * 4 ^ d)) := by
  intro d
  induction d with
  | zero =>
    intro n1 hz hd2 b
    refine ConC.of_fn (plans := np) (nov := true) (fun v hv => by obtain ⟨n, rfl, _⟩ := hv; exact ⟨Tryz.f85, [str n], by kernel_rfl, rfl, by kernel_rfl⟩) (fun S hp => ?_)
    have hd := Dr.start hp
    rw [v85]
    rw [show 40 * 4 ^ 0 = 40 from rfl]
    repeat' first
      | exact True.intro
      | exact (rfl : true = true)
      | exact ⟨rfl, hd.mv, _, rfl, by first | omega | (simp only [ByteArray.size_append, bsz, List.length_cons, List.length_nil]; omega)⟩
      | (refine dT (l1Pick_c k x hx 9 rfl (by decide) (by repeat' first | exact True.intro | exact Nat.le_of_ble_eq_true rfl | apply And.intro)) (hd.born _) ?_; intro s1 S1 hd hs)
      | (refine dI (l1Below_c k x hx _) hd ?_; intro n S1 hd hn; have hn0 := hn.1; have hn1 := hn.2 (by omega))
      | (refine dTe (Dec_c _ hn0 (by omega)) hd ?_; intro s1 S1 hd hs)
      | (refine dB (l1Once_c k x hx _) hd ?_; intro b1 S1 hd)
      | refine And.intro (fun hq => ?_) (fun hq => ?_)
      | omega
      | (simp only [ByteArray.size_append, bsz, List.length_cons, List.length_nil]; omega)
      | (exfalso; have hq2 := of_decide_eq_true hq; omega)
      | apply And.intro
  | succ d ih =>
    intro n1 hz hd2 b
    have hE : 40 ≤ 40 * 4 ^ d := Nat.le_mul_of_pos_right _ (Nat.pow_pos (by omega))
    have hE2 : 40 * 4 ^ (d + 1) = 4 * (40 * 4 ^ d) := by rw [Nat.pow_succ]; omega
    have hE3 : 40 * 4 ^ d ≤ 640 := Nat.mul_le_mul_left 40 (Nat.pow_le_pow_right (by omega) (by omega) : 4 ^ d ≤ 4 ^ 2)
    refine ConC.of_fn (plans := np) (nov := true) (fun v hv => by obtain ⟨n, rfl, _⟩ := hv; exact ⟨Tryz.f85, [str n], by kernel_rfl, rfl, by kernel_rfl⟩) (fun S hp => ?_)
    have hd := Dr.start hp
    rw [v85, hE2]
    generalize 40 * 4 ^ d = e at *
    repeat' first
      | exact True.intro
      | exact (rfl : true = true)
      | exact ⟨rfl, hd.mv, _, rfl, by first | omega | (simp only [ByteArray.size_append, bsz, List.length_cons, List.length_nil]; omega)⟩
      | (refine dT (l1Pick_c k x hx 9 rfl (by decide) (by repeat' first | exact True.intro | exact Nat.le_of_ble_eq_true rfl | apply And.intro)) (hd.born _) ?_; intro s1 S1 hd hs)
      | (refine dI (l1Below_c k x hx _) hd ?_; intro n S1 hd hn; have hn0 := hn.1; have hn1 := hn.2 (by omega))
      | (refine dTe (Dec_c _ hn0 (by omega)) hd ?_; intro s1 S1 hd hs)
      | (refine dB (l1Once_c k x hx _) hd ?_; intro b1 S1 hd)
      | (refine dT (ih _ (by omega) (by omega) _) hd ?_; intro s2 S1 hd hs)
      | refine And.intro (fun hq => ?_) (fun hq => ?_)
      | omega
      | (unfold in64; omega)
      | (simp only [ByteArray.size_append, bsz, List.length_cons, List.length_nil]; omega)
      | apply And.intro
end Go.Proofs.YtkdickfiifpblaaGreatDoor.D
namespace Go.Proofs.YtkdickfiifpblaaGreatDoor.D
open Go Go.Den Go.Proofs
set_option maxRecDepth 100000
variable {w0 : World}
def txtsB (m : Nat) : List AL → Bool
  | [] => true
  | .str s :: r => Nat.ble s.size m && txtsB m r
  | _ :: _ => false
theorem Txts.of {m : Nat} : ∀ {ys : List AL}, txtsB m ys = true → Txts m ys
  | [], _ => True.intro
  | .str s :: r, h => by
    unfold txtsB at h
    rw [Bool.and_eq_true] at h
    exact ⟨Nat.le_of_ble_eq_true h.1, Txts.of h.2⟩
set_option maxHeartbeats 2000000 in
theorem l4Line_c (k : Nat) (x : AL) (hx : Src x) (b : Bool) : ConC w0 66 [.ptr k 0, bool b] k x (rT 5000) := by
  refine ConC.of_fn (plans := np) (nov := true) (fun v hv => by obtain ⟨n, rfl, _⟩ := hv; exact ⟨Tryz.f66, [str n], by kernel_rfl, rfl, by kernel_rfl⟩) (fun S hp => ?_)
  have hd := Dr.start hp
  rw [v66]
  repeat' first
    | exact True.intro
    | exact (rfl : true = true)
    | exact ⟨rfl, hd.mv, _, rfl, by first | omega | (simp only [ByteArray.size_append, bsz, List.length_cons, List.length_nil]; omega)⟩
    | (refine dT (l1Pick_c k x hx 12 rfl (by decide) (.of rfl)) (hd.born _) ?_; intro s1 S1 hd hs)
    | (refine dT (l1Pick_c k x hx 1000 rfl (by decide) ?_) (hd.born _) (fun s1 S1 hd hs => ?_))
    | (refine dI (l1Below_c k x hx _) hd ?_; intro n S1 hd hn; have hn0 := hn.1; have hn1 := hn.2 (by omega))
    | (refine dB (l1Once_c k x hx _) hd ?_; intro b1 S1 hd)
    | (refine dT (m := 640) (l4Expr_c k x hx 2 _ rfl (Nat.le_refl 2) _) hd ?_; intro s2 S1 hd hs)
    | refine And.intro (fun hq => ?_) (fun hq => ?_)
    | omega
    | (unfold in64; omega)
    | (simp only [ByteArray.size_append, bsz, List.length_cons, List.length_nil]; omega)
    | apply And.intro
def iTxt (k : Nat) (y : AL) (S0 : St) (b : Bool) : Nat → KE := fun m env S' L => ∃ (n : Int) (s : ByteArray), env = [(8, .v (int n)), (7, .v (str s)), (6, .v (str ⟨⟨[]⟩⟩)), (0, .v (.ptr k 0)), (2, .v (bool b))] ∧ L = [] ∧ Dr k y S0 S' ∧ 0 ≤ n ∧ n ≤ 10 ∧ (s.size : Int) + n * 5001 ≤ 50010 ∧ (m : Int) = n
theorem l4Text_c (k : Nat) (x : AL) (hx : Src x) (n1 : Int) (h0 : 0 ≤ n1) (h1 : n1 ≤ 10) (b : Bool) : ConC w0 40 [.ptr k 0, int n1, bool b] k x (rT 60000) := by
  refine ConC.of_fn (plans := np) (nov := true) (fun v hv => by obtain ⟨n, rfl, _⟩ := hv; exact ⟨Tryz.f40, [str n], by kernel_rfl, rfl, by kernel_rfl⟩) (fun S hp => ?_)
  have hd := Dr.start hp
  rw [v40]
  refine ⟨rfl, by unfold in64; omega, dI (l1Below_c k x hx _) hd fun n S1 hd hn => ?_⟩
  have hn0 := hn.1
  have hn1 := hn.2 (by omega)
  refine ⟨[8, 7, 6, 0, 2], iTxt k x S b, n.toNat, ⟨n, ⟨⟨[]⟩⟩, rfl, rfl, hd, hn0, by omega, by show (0 : Int) + n * 5001 ≤ 50010; omega, by omega⟩, ?_⟩
  rintro m env S2 L2 ⟨n, s, rfl, rfl, hd, g0, g1, g2, hm⟩
  refine WSem.of hT hmo (nov := true) (plans := np) (f := 1000) ?_
  rw [b40_0]
  refine ⟨fun hgt => ?_, fun _ => ?_⟩
  · have hgt := of_decide_eq_true hgt
    refine dT (l4Line_c k x hx b) hd fun t S3 hd ht => ⟨by omega, by rw [ByteArray.size_append]; omega, by unfold in64; omega, loopK.again (L' := []) (m' := m - 1) ⟨hd.has.lt, trivial⟩ rfl (by omega) ⟨n - 1, _, rfl, rfl, hd, by omega, by omega, ?_, by omega⟩⟩
    simp only [ByteArray.size_append, bsz, List.length_cons, List.length_nil]
    omega
  · refine loopK.exit (L' := []) ⟨hd.has.lt, trivial⟩ rfl (kont.of hT hmo (nov := true) (plans := np) (f := 1000) ?_)
    rw [x40_0]
    refine dB (l1Once_c k x hx _) hd fun b1 S3 hd => ⟨fun _ => dT (l1Spoil_c k x hx s (by omega)) hd fun t S4 hd ht => ⟨rfl, hd.mv, _, rfl, by omega⟩, fun _ => dB (l1Once_c k x hx _) hd fun b1 S3 hd => ⟨fun _ => dT (l1Pick_c k x hx 100 rfl (by decide) (by repeat' first | exact True.intro | exact Nat.le_of_ble_eq_true rfl | apply And.intro)) (hd.born _) fun t S4 hd ht => ⟨by omega, rfl, hd.mv, _, rfl, by rw [ByteArray.size_append]; omega⟩, fun _ => ⟨rfl, hd.mv, _, rfl, by omega⟩⟩⟩
end Go.Proofs.YtkdickfiifpblaaGreatDoor.D
namespace Go.Proofs.YtkdickfiifpblaaGreatDoor.D
open Go Go.Den Go.Proofs
set_option maxRecDepth 100000
variable {w0 : World}
structure Gd (m : Md) : Prop where
  good : ∀ s, s ∈ m.stmts → (s.k = 1 → s.name = dflt → ∃ x, x ∈ m.exps ∧ x.k = 1 ∧ x.loc = dflt) ∧ (s.k = 2 → s.name ≠ dflt)
  bi : ∀ x, x ∈ m.imps → x.loc.size ≤ 1000000
  bs : ∀ x, x ∈ m.stmts → x.name.size ≤ 1000000
  bx : ∀ x, x ∈ m.exprs → x.name.size ≤ 1000000
def rDrawn (v : AV) : Prop := ∃ m : Md, v = m.av ∧ MT m ∧ Gd m
def B2 (x : AL) (S : St) : Prop := ∃ i h : Int, S.boxes = [(30, nil5), cuC x i h] ∧ 0 ≤ i
theorem B2.has {x : AL} {S : St} (h : B2 x S) : HasC 1 x S := by
  obtain ⟨i, h, hb, h0⟩ := h
  exact ⟨i, h, by rw [hb]; rfl, h0⟩
theorem B2.moved {x : AL} {S S' : St} (h : B2 x S) (hm : Moved 1 x S S') : B2 x S' := by
  obtain ⟨i, h, hb, h0⟩ := h
  obtain ⟨i', h', hb', h0', _⟩ := hm
  exact ⟨i', h', by rw [hb', hb]; rfl, h0'⟩
theorem B2.same {x : AL} {S S' : St} (h : B2 x S) (hm : S'.boxes = S.boxes) : B2 x S' := by
  obtain ⟨i, h, hb, h0⟩ := h
  exact ⟨i, h, hm.trans hb, h0⟩
theorem MR.ext {S S' : St} {m : Md} (h : MR S m) (k : TokLe S S') : MR S' m := ⟨h.rr.ext k, h.ri.ext k, h.re.ext k, h.rs.ext k, h.rx.ext k, h.ap⟩
structure DM (x : AL) (m : Md) (S : St) : Prop where
  b2 : B2 x S
  mr : MR S m
theorem DM.born {x : AL} {m : Md} {S : St} (h : DM x m S) (y : Nat × TypeId × Nat) : DM x m (S.born y) := ⟨h.b2.same rfl, h.mr.ext (TokLe.born S y)⟩
theorem DM.moved {x : AL} {m : Md} {S S' : St} (h : DM x m S) (hm : Moved 1 x S S') : DM x m S' := by
  have hm' := hm
  obtain ⟨_, _, _, _, ht⟩ := hm'
  exact ⟨h.b2.moved hm, h.mr.ext ht⟩
theorem ConC.useY {f : FuncId} {args : List AV} {k : Nat} {x : AL} {r : AV → Prop} (h : ConC w0 f args k x r) (S : St) (L : Lo) (hp : HasC k x S) : (realHk Tryz.prog w0 TY).tot f args S L fun v S' => Moved k x S S' ∧ r v := by
  obtain ⟨h1, h2⟩ := h.use S L hp
  refine ⟨h1, fun v S1 hv => ?_⟩
  obtain ⟨fn, vs, g1, g2, g3⟩ := h2 v S1 hv
  exact ⟨fn, vs, g1, g2, likeY g3⟩
theorem ConP.useY {f : FuncId} {args : List AV} {pre : St → Prop} {r : AV → St → Prop} (h : CONP w0 f args pre r) (S : St) (L : Lo) (hp : pre S) : (realHk Tryz.prog w0 TY).tot f args S L fun v S' => Bx S S' ∧ r v S' := by
  obtain ⟨h1, h2⟩ := h.use S L hp
  refine ⟨h1, fun v S1 hv => ?_⟩
  obtain ⟨fn, vs, g1, g2, g3⟩ := h2 v S1 hv
  exact ⟨fn, vs, g1, g2, likeY g3⟩
section
variable {f : Nat} {args : List AV} {x : AL} {m : Md} {S : St} {L : Lo}
theorem eI {r : Int → Prop} {H : Int → St → Prop} (h : ConC w0 f args 1 x (rI r)) (hd : DM x m S) (kk : ∀ n S1, DM x m S1 → r n → H n S1) :
    ∃ R, (realHk Tryz.prog w0 TY).1 f args S L R ∧ ∀ (n : Int) (S1 : St), R (AV.one (AL.int IntKind.i64 n)) S1 → H n S1 := by
  refine ⟨_, ConC.useY h S L hd.b2.has, ?_⟩
  rintro n S1 ⟨hm, n', hn, hr⟩
  cases hn
  exact kk n S1 (hd.moved hm) hr
theorem eB {H : Bool → St → Prop} (h : ConC w0 f args 1 x rB) (hd : DM x m S) (kk : ∀ n S1, DM x m S1 → H n S1) :
    ∃ R, (realHk Tryz.prog w0 TY).1 f args S L R ∧ ∀ (b : Bool) (S1 : St), R (AV.one (AL.bool b)) S1 → H b S1 := by
  refine ⟨_, ConC.useY h S L hd.b2.has, ?_⟩
  rintro n S1 ⟨hm, n', hn⟩
  exact kk n S1 (hd.moved hm)
theorem eT {m' : Nat} {H : ByteArray → St → Prop} (h : ConC w0 f args 1 x (rT m')) (hd : DM x m S) (kk : ∀ s S1, DM x m S1 → s.size ≤ m' → H s S1) :
    ∃ R, (realHk Tryz.prog w0 TY).1 f args S L R ∧ ∀ (s : ByteArray) (S1 : St), R (AV.one (AL.str s)) S1 → H s S1 := by
  refine ⟨_, ConC.useY h S L hd.b2.has, ?_⟩
  rintro n S1 ⟨hm, n', hn, hr⟩
  cases hn
  exact kk n S1 (hd.moved hm) hr
end
def Q14 (v : AV) (S : St) : Prop := (∃ c, S.boxes = [(30, nil5), c]) ∧ rDrawn v
theorem Row.MT_of {S : St} {m : Md} (h : MR S m) (c1 : m.reqs.length ≤ 1000) (c2 : m.imps.length ≤ 1000) (c3 : m.exps.length ≤ 1000) (c4 : m.stmts.length ≤ 1000) (c5 : m.exprs.length ≤ 1000) : MT m :=
  ⟨⟨h.rr.vw, h.ri.vw, h.re.vw, h.rs.vw, h.rx.vw, c1, c2, c3, c4, c5⟩, Row.tkd h.rr, Row.tkd h.ri, Row.tkd h.re, Row.tkd h.rs, Row.tkd h.rx⟩
section
variable {x : AL} {m : Md} {S : St}
theorem push0 (h : DM x m S) (hm : MT m) (g : Gd m) (c : m.reqs.length ≤ 999) (s : BA) : ∃ r S', dAppend2 TY 24 m.xr (.sl (some S.toks.length) 1 [.str s]) (S.born (1, 9, 1)) = some (r, S') ∧ Q14 (.agg [r, m.xi, m.xe, m.xs, m.xx]) S' := by
  obtain ⟨r, S', h1, h2, h3, _⟩ := h.mr.rr.push (t := 24) T24 rfl T9 rfl (by decide) (ys := [.str s]) rfl (by unfold maxLen; omega) (by show (m.reqs.length + 1) * 16 ≤ _; omega) (some S.toks.length) (1, 9, 1)
  obtain ⟨i, hh, hb, _⟩ := h.b2
  have hv : Row S' 9 1 r (m.reqs ++ [s]).length ((m.reqs ++ [s]).flatMap Rq) := by
    rw [List.length_append, List.flatMap_append]
    exact h2
  exact ⟨r, S', h1, ⟨_, h3.trans hb⟩, { m with xr := r, reqs := m.reqs ++ [s] }, rfl, ⟨⟨hv.vw, hm.mv.vi, hm.mv.ve, hm.mv.vs, hm.mv.vx, by show (m.reqs ++ [s]).length ≤ 1000; simp; omega, hm.mv.ci, hm.mv.ce, hm.mv.cs, hm.mv.cx⟩, Row.tkd hv, hm.ti, hm.te, hm.ts, hm.tx⟩, ⟨g.good, g.bi, g.bs, g.bx⟩⟩
theorem push1 (h : DM x m S) (hm : MT m) (g : Gd m) (c : m.imps.length ≤ 999) (a : Im) (hs : a.loc.size ≤ 1000000) : ∃ r S', dAppend2 TY 25 m.xi (.sl (some S.toks.length) 1 [.str a.spec, .str a.from_, .str a.loc]) (S.born (3, 48, 3)) = some (r, S') ∧ Q14 (.agg [m.xr, r, m.xe, m.xs, m.xx]) S' := by
  obtain ⟨r, S', h1, h2, h3, _⟩ := h.mr.ri.push (t := 25) T25 rfl T48 rfl (by decide) (ys := a.cells) rfl (by unfold maxLen; omega) (by show (m.imps.length + 1) * 48 ≤ _; omega) (some S.toks.length) (3, 48, 3)
  obtain ⟨i, hh, hb, _⟩ := h.b2
  have hv : Row S' 48 3 r (m.imps ++ [a]).length ((m.imps ++ [a]).flatMap Im.cells) := by
    rw [List.length_append, List.flatMap_append, List.flatMap_cons, List.flatMap_nil, List.append_nil]
    exact h2
  exact ⟨r, S', h1, ⟨_, h3.trans hb⟩, { m with xi := r, imps := m.imps ++ [a] }, rfl, ⟨⟨hm.mv.vr, hv.vw, hm.mv.ve, hm.mv.vs, hm.mv.vx, hm.mv.cr, by show (m.imps ++ [a]).length ≤ 1000; simp; omega, hm.mv.ce, hm.mv.cs, hm.mv.cx⟩, hm.tr, Row.tkd hv, hm.te, hm.ts, hm.tx⟩, ⟨g.good, fun y hy => by rcases List.mem_append.1 hy with hy | hy; exact g.bi y hy; rw [List.mem_singleton.1 hy]; exact hs, g.bs, g.bx⟩⟩
theorem push2 (h : DM x m S) (hm : MT m) (g : Gd m) (c : m.exps.length ≤ 999) (a : Xp) : ∃ r S', dAppend2 TY 26 m.xe (.sl (some S.toks.length) 1 [.int .i64 a.k, .str a.name, .str a.loc, .str a.spec]) (S.born (4, 72, 4)) = some (r, S') ∧ Q14 (.agg [m.xr, m.xi, r, m.xs, m.xx]) S' := by
  obtain ⟨r, S', h1, h2, h3, _⟩ := h.mr.re.push (t := 26) T26 rfl T72 rfl (by decide) (ys := a.cells) rfl (by unfold maxLen; omega) (by show (m.exps.length + 1) * 56 ≤ _; omega) (some S.toks.length) (4, 72, 4)
  obtain ⟨i, hh, hb, _⟩ := h.b2
  have hv : Row S' 72 4 r (m.exps ++ [a]).length ((m.exps ++ [a]).flatMap Xp.cells) := by
    rw [List.length_append, List.flatMap_append, List.flatMap_cons, List.flatMap_nil, List.append_nil]
    exact h2
  exact ⟨r, S', h1, ⟨_, h3.trans hb⟩, { m with xe := r, exps := m.exps ++ [a] }, rfl, ⟨⟨hm.mv.vr, hm.mv.vi, hv.vw, hm.mv.vs, hm.mv.vx, hm.mv.cr, hm.mv.ci, by show (m.exps ++ [a]).length ≤ 1000; simp; omega, hm.mv.cs, hm.mv.cx⟩, hm.tr, hm.ti, Row.tkd hv, hm.ts, hm.tx⟩, ⟨fun s hs => ⟨fun h1 h2 => by obtain ⟨y, hy, h3⟩ := (g.good s hs).1 h1 h2; exact ⟨y, List.mem_append_left _ hy, h3⟩, (g.good s hs).2⟩, g.bi, g.bs, g.bx⟩⟩
theorem push3 (h : DM x m S) (hm : MT m) (g : Gd m) (c : m.stmts.length ≤ 999) (a : Sm) (hs : a.name.size = 1) : ∃ r S', dAppend2 TY 27 m.xs (.sl (some S.toks.length) 1 [.int .i64 a.k, .str a.name, .int .i64 a.e]) (S.born (3, 46, 3)) = some (r, S') ∧ Q14 (.agg [m.xr, m.xi, m.xe, r, m.xx]) S' := by
  obtain ⟨r, S', h1, h2, h3, _⟩ := h.mr.rs.push (t := 27) T27 rfl T46 rfl (by decide) (ys := a.cells) rfl (by unfold maxLen; omega) (by show (m.stmts.length + 1) * 32 ≤ _; omega) (some S.toks.length) (3, 46, 3)
  obtain ⟨i, hh, hb, _⟩ := h.b2
  have hne : a.name ≠ dflt := fun he => by rw [he] at hs; exact absurd hs (by decide)
  have hv : Row S' 46 3 r (m.stmts ++ [a]).length ((m.stmts ++ [a]).flatMap Sm.cells) := by
    rw [List.length_append, List.flatMap_append, List.flatMap_cons, List.flatMap_nil, List.append_nil]
    exact h2
  exact ⟨r, S', h1, ⟨_, h3.trans hb⟩, { m with xs := r, stmts := m.stmts ++ [a] }, rfl, ⟨⟨hm.mv.vr, hm.mv.vi, hm.mv.ve, hv.vw, hm.mv.vx, hm.mv.cr, hm.mv.ci, hm.mv.ce, by show (m.stmts ++ [a]).length ≤ 1000; simp; omega, hm.mv.cx⟩, hm.tr, hm.ti, hm.te, Row.tkd hv, hm.tx⟩, ⟨fun s hs2 => by
    rcases List.mem_append.1 hs2 with h4 | h4
    · exact g.good s h4
    · rw [List.mem_singleton.1 h4]
      exact ⟨fun _ h5 => absurd h5 hne, fun _ => hne⟩, g.bi, fun y hy => by rcases List.mem_append.1 hy with hy | hy; exact g.bs y hy; rw [List.mem_singleton.1 hy]; omega, g.bx⟩⟩
theorem push4 (h : DM x m S) (hm : MT m) (g : Gd m) (c : m.exprs.length ≤ 999) (a : Er) (hs : a.name.size = 0) : ∃ r S', dAppend2 TY 28 m.xx (.sl (some S.toks.length) 1 [.int .i64 a.k, .int .i64 a.num, .str a.name, .str a.field, .int .i64 a.l, .int .i64 a.r]) (S.born (6, 59, 6)) = some (r, S') ∧ Q14 (.agg [m.xr, m.xi, m.xe, m.xs, r]) S' := by
  obtain ⟨r, S', h1, h2, h3, _⟩ := h.mr.rx.push (t := 28) T28 rfl T59 rfl (by decide) (ys := a.cells) rfl (by unfold maxLen; omega) (by show (m.exprs.length + 1) * 64 ≤ _; omega) (some S.toks.length) (6, 59, 6)
  obtain ⟨i, hh, hb, _⟩ := h.b2
  have hv : Row S' 59 6 r (m.exprs ++ [a]).length ((m.exprs ++ [a]).flatMap Er.cells) := by
    rw [List.length_append, List.flatMap_append, List.flatMap_cons, List.flatMap_nil, List.append_nil]
    exact h2
  exact ⟨r, S', h1, ⟨_, h3.trans hb⟩, { m with xx := r, exprs := m.exprs ++ [a] }, rfl, ⟨⟨hm.mv.vr, hm.mv.vi, hm.mv.ve, hm.mv.vs, hv.vw, hm.mv.cr, hm.mv.ci, hm.mv.ce, hm.mv.cs, by show (m.exprs ++ [a]).length ≤ 1000; simp; omega⟩, hm.tr, hm.ti, hm.te, hm.ts, Row.tkd hv⟩, ⟨g.good, g.bi, g.bs, fun y hy => by rcases List.mem_append.1 hy with hy | hy; exact g.bx y hy; rw [List.mem_singleton.1 hy]; omega⟩⟩
end
end Go.Proofs.YtkdickfiifpblaaGreatDoor.D
namespace Go.Proofs.YtkdickfiifpblaaGreatDoor.D
open Go Go.Den Go.Proofs
set_option maxRecDepth 100000
variable {w0 : World}
theorem num_set {l : List Er} {i : Nat} {a : Er} (ha : l[i]? = some a) (v : Int) : spl (l.flatMap Er.cells) (i * 6 + 1) [AL.int .i64 v] = (l.set i { a with num := v }).flatMap Er.cells := by
  have hi := (List.getElem?_eq_some_iff.1 ha).1
  have e1 : l = l.take i ++ a :: l.drop (i + 1) := by
    obtain ⟨h1, h2⟩ := List.getElem?_eq_some_iff.1 ha
    rw [← h2, ← List.drop_eq_getElem_cons h1, List.take_append_drop]
  have e2 : l.set i { a with num := v } = l.take i ++ { a with num := v } :: l.drop (i + 1) := by
    conv => lhs; rw [e1]
    rw [List.set_append_right _ _ (by rw [List.length_take]; omega), List.length_take, show i - min i l.length = 0 by omega]
    rfl
  rw [e2]
  conv => lhs; rw [e1]
  rw [List.flatMap_append, List.flatMap_append, List.flatMap_cons, List.flatMap_cons]
  have hl : ((l.take i).flatMap Er.cells ++ [AL.int .i64 a.k]).length = i * 6 + 1 := by
    rw [List.length_append, flat_len Er.cells 6 Er_len, List.length_take, show min i l.length = i by omega]
    rfl
  have e3 : (l.take i).flatMap Er.cells ++ (a.cells ++ (l.drop (i + 1)).flatMap Er.cells) = ((l.take i).flatMap Er.cells ++ [AL.int .i64 a.k]) ++ ([AL.int .i64 a.num, .str a.name, .str a.field, .int .i64 a.l, .int .i64 a.r] ++ (l.drop (i + 1)).flatMap Er.cells) := by
    rw [List.append_assoc]
    rfl
  rw [e3, ← hl, spl_at _ _ _ (by simp)]
  rw [List.append_assoc]
  rfl
abbrev int' (v : Int) : AL := .int .i64 v
theorem l4Mod_t (x : AL) (hx : Src x) (n1 : Int) (h0 : 0 ≤ n1) (h1 : n1 ≤ 10) (b : Bool) {S : St} (hS : B2 x S) : Tot Tryz.prog w0 14 [.ptr 1 0, int n1, bool b] S Q14 := by
  refine (Tot.of_wFn2 hTY hmo (nov := cf14) (plans := pl14b) (keep := false) (Q := Q14) ?_).mono ?_
  · rw [v14]
    simp only [and_true, and_self, true_and, eq_self]
    have hb0 : B2 x { S with young := [] } := hS.same rfl
    have ho : ∀ S1 : St, True := fun _ => trivial
    refine ⟨_, ConC.useY (l4Text_c 1 x hx n1 h0 h1 b) _ _ hb0.has, fun s S1 hR => ?_⟩
    obtain ⟨hm, s', he, hs⟩ := hR
    cases he
    have hb1 := hb0.moved hm
    refine ⟨_, ConP.useY (Parse_c s b (by unfold Small; omega)) _ _ trivial, fun x0 x1 x2 x3 x4 n S2 hR => ?_⟩
    obtain ⟨hB, m, n', he, hf, c1, c2, c3, c4, c5, hr⟩ := hR
    cases he
    have hd : DM x m S2 := ⟨hb1.same hB.box, hr⟩
    have hmt : MT m := Row.MT_of hr (by omega) (by omega) (by omega) (by omega) (by omega)
    have hg : Gd m := ⟨hf.good, fun y hy => by have := hf.bi y hy; omega, fun y hy => by have := hf.bs y hy; omega, fun y hy => by have := hf.bx y hy; omega⟩
    have stay : ∀ {S' : St}, DM x m S' → Q14 (.agg [m.xr, m.xi, m.xe, m.xs, m.xx]) S' := fun hd' => by
      obtain ⟨i, hh, hb, _⟩ := hd'.b2
      exact ⟨⟨_, hb⟩, m, rfl, hmt, hg⟩
    refine eB (l1Once_c 1 x hx _) hd fun b1 S3 hd => ⟨fun _ => ?_, fun _ => stay hd⟩
    refine eI (l1Below_c 1 x hx _) hd fun k S4 hd hk => ⟨fun _ => ?_, fun _ => ⟨fun _ => ?_, fun _ => ⟨fun _ => ?_, fun _ => ⟨fun _ => ?_, fun _ => ⟨fun _ => ?_, fun _ => ?_⟩⟩⟩⟩⟩
    · exact eT (l1Pick_c 1 x hx 10 rfl (by decide) (by repeat' first | exact True.intro | exact ⟨by decide, True.intro⟩ | refine ⟨by decide, ?_⟩)) (hd.born _) fun s S5 hd hs => push0 hd hmt hg (by omega) s
    · exact eT (l1Pick_c 1 x hx 10 rfl (by decide) (by repeat' first | exact True.intro | exact ⟨by decide, True.intro⟩ | refine ⟨by decide, ?_⟩)) (hd.born _) fun s S5 hd hs => push1 hd hmt hg (by omega) ⟨⟨⟨[120]⟩⟩, ⟨⟨[97]⟩⟩, s⟩ (by show s.size ≤ _; omega)
    · exact ⟨eI (l1Below_c 1 x hx _) hd fun n S5 hd hn => eT (l1Pick_c 1 x hx 10 rfl (by decide) (by repeat' first | exact True.intro | exact ⟨by decide, True.intro⟩ | refine ⟨by decide, ?_⟩)) (hd.born _) fun s S6 hd hs => push2 hd hmt hg (by omega) ⟨n, ⟨⟨[113]⟩⟩, ⟨⟨[113]⟩⟩, s⟩,
        eI (l1Below_c 1 x hx _) (hd.born _) fun n S5 hd hn => eT (l1Pick_c 1 x hx 10 rfl (by decide) (by repeat' first | exact True.intro | exact ⟨by decide, True.intro⟩ | refine ⟨by decide, ?_⟩)) hd fun s S6 hd hs => push2 hd hmt hg (by omega) ⟨n, ⟨⟨[113]⟩⟩, ⟨⟨[113]⟩⟩, s⟩⟩
    · exact eI (l1Below_c 1 x hx _) hd fun n S5 hd hn => eI (l1Below_c 1 x hx _) hd fun e S6 hd he => ⟨by have := he.1; have := he.2 (by omega); unfold in64; omega, push3 hd hmt hg (by omega) ⟨n, ⟨⟨[113]⟩⟩, e - 1⟩ rfl⟩
    · exact eI (l1Below_c 1 x hx _) hd fun n S5 hd hn => eI (l1Below_c 1 x hx _) hd fun e S6 hd he => eI (l1Below_c 1 x hx _) hd fun e2 S7 hd he2 => push4 hd hmt hg (by omega) ⟨n, 0, ⟨⟨[]⟩⟩, ⟨⟨[]⟩⟩, e, e2⟩ rfl
    · refine ⟨_, hmt.mv.vx.len, fun hpos => ?_, fun _ => stay hd⟩
      have hpos := of_decide_eq_true hpos
      refine ⟨_, hmt.mv.vx.len, eI (l1Below_c 1 x hx _) hd fun i S5 hd hi => eI (l1Below_c 1 x hx _) hd fun v S6 hd hv => ?_⟩
      have hi1 := hi.1
      have hi2 := hi.2 hpos
      have hrx := hd.mr.rx
      obtain ⟨_, ⟨_, h00⟩ | ⟨tk, hxx, ht, hy⟩⟩ := hd.mr.rx
      · omega
      · obtain ⟨a, ha⟩ : ∃ a, m.exprs[i.toNat]? = some a := ⟨_, List.getElem?_eq_getElem (by omega)⟩
        have hap := hd.mr.ap
        simp only [List.pairwise_cons, List.mem_cons, List.not_mem_nil, forall_eq_or_imp, or_false, forall_eq] at hap
        obtain ⟨⟨a1, a2, a3, a4⟩, ⟨b1, b2, b3⟩, ⟨d1, d2⟩, e1, _⟩ := hap
        have htk : m.xx.tk = some tk := by rw [hxx]; rfl
        have hne : ∀ y, Ap y m.xx → y.tk ≠ some tk := fun y hA he => hA tk he htk
        have lx : (m.exprs.flatMap Er.cells).length = m.exprs.length * 6 := flat_len Er.cells 6 Er_len m.exprs
        refine ⟨tk, _, _, hxx, hi1, by omega, _, _, _, ht, hy, by rw [lx]; omega, ?_⟩
        have p0 : AL.put S6.has tk (i.toNat * 6 + 1) [int' v] m.xr = m.xr := AL.put_clr (clrRow PlC.Rq hd.mr.rr (hne _ a4))
        have p1 : AL.put S6.has tk (i.toNat * 6 + 1) [int' v] m.xi = m.xi := AL.put_clr (clrRow PlC.Im hd.mr.ri (hne _ b3))
        have p2 : AL.put S6.has tk (i.toNat * 6 + 1) [int' v] m.xe = m.xe := AL.put_clr (clrRow PlC.Xp hd.mr.re (hne _ d2))
        have p3 : AL.put S6.has tk (i.toNat * 6 + 1) [int' v] m.xs = m.xs := AL.put_clr (clrRow PlC.Sm hd.mr.rs (hne _ e1))
        have p4 : AL.put S6.has tk (i.toNat * 6 + 1) [int' v] m.xx = .sl (some tk) m.exprs.length ((m.exprs.set i.toNat { a with num := v }).flatMap Er.cells) := by
          rw [hxx, AL.put, if_pos rfl, if_pos (PlC.Er.flat _ _ _), num_set ha v]
        have goal : Q14 (.agg [AL.put S6.has tk (i.toNat * 6 + 1) [int' v] m.xr, AL.put S6.has tk (i.toNat * 6 + 1) [int' v] m.xi, AL.put S6.has tk (i.toNat * 6 + 1) [int' v] m.xe, AL.put S6.has tk (i.toNat * 6 + 1) [int' v] m.xs, AL.put S6.has tk (i.toNat * 6 + 1) [int' v] m.xx]) (S6.put tk (i.toNat * 6 + 1) [int' v]) := by
          rw [p0, p1, p2, p3, p4]
          obtain ⟨ci, ch, hb, _⟩ := hd.b2
          have hlen : (m.exprs.set i.toNat { a with num := v }).length = m.exprs.length := List.length_set
          refine ⟨⟨_, by show putB S6.has tk _ _ S6.boxes = _; rw [hb]; rfl⟩, { m with xx := .sl (some tk) m.exprs.length ((m.exprs.set i.toNat { a with num := v }).flatMap Er.cells), exprs := m.exprs.set i.toNat { a with num := v } }, rfl, ⟨⟨hmt.mv.vr, hmt.mv.vi, hmt.mv.ve, hmt.mv.vs, .inr ⟨some tk, by show AL.sl _ m.exprs.length _ = .sl _ (m.exprs.set i.toNat { a with num := v }).length _; rw [hlen]⟩, hmt.mv.cr, hmt.mv.ci, hmt.mv.ce, hmt.mv.cs, by show (m.exprs.set i.toNat { a with num := v }).length ≤ 1000; rw [hlen]; exact hmt.mv.cx⟩, hmt.tr, hmt.ti, hmt.te, hmt.ts, fun _ _ h => by cases h⟩, ⟨hg.good, hg.bi, hg.bs, fun y hy => ?_⟩⟩
          rcases List.mem_or_eq_of_mem_set hy with h | h
          · exact hg.bx y h
          · rw [h]; exact hg.bx a (List.mem_of_getElem? ha)
        exact goal
  · rintro v S'' ⟨S', rfl, h⟩
    exact h
end Go.Proofs.YtkdickfiifpblaaGreatDoor.D
namespace Go.Proofs.YtkdickfiifpblaaGreatDoor.D
open Go Go.Den Go.Proofs
set_option maxRecDepth 100000
theorem MT.shape {m : Md} (h : MT m) {f : FuncId} {fn : Func} (hf : Tryz.prog.funcs[f]? = some fn) (hr : fn.resultTypes.toList = [30]) : ∃ fn vs, Tryz.prog.funcs[f]? = some fn ∧ m.av = tupOf vs ∧ likeVs (tabOf Tryz.prog) fn.resultTypes.toList vs = true :=
  ⟨fn, [m.av], hf, rfl, by rw [hr]; exact h.mv.like⟩
theorem DrawLint_iso (x : AL) (hx : Src x) (w0 : World) (n : Nat) : Tot Tryz.prog w0 5 [.one x] (iso n) fun v _ => rDrawn v := by
  refine Tot.drop (Tot.of_dwpK (T := tabOf Tryz.prog) hT rfl (fn := Tryz.f5) (c := Tryz.f5.body.get!) (by kernel_rfl) (by kernel_rfl) (by kernel_rfl) (Nat.le_of_ble_eq_true (by kernel_rfl)) ?_)
  show dwp Tryz.prog w0 (tabOf Tryz.prog) 12 0 (codeOf Tryz.prog 5 []) (argRho [.one x]) (iso n) _
  have ha : dAlloc (tabOf Tryz.prog) 30 (iso n) = some (.ptr 0 0, { iso n with boxes := [(30, nil5)] }) := by
    unfold dAlloc
    rw [T30]
    rfl
  refine dOneY_val (v := .ptr 0 0) (S' := { iso n with boxes := [(30, nil5)] }) rfl (by show ((dAlloc (tabOf Tryz.prog) 30 (iso n)).map fun r => Res.val r.1 r.2) = _; rw [ha]; rfl) ?_
  refine dOneY_val (v := .one x) rfl rfl ?_
  refine dOneY_call rfl rfl (l1New_c x hx _) ?_
  rintro v S1 ⟨rfl, h, hb, _, _⟩
  have hb2 : B2 x S1 := ⟨0, h, hb, Int.le_refl 0⟩
  refine dOneY_val (v := .ptr 1 0) rfl rfl ?_
  refine dOneY_val (v := .ptr 1 0) rfl rfl ?_
  refine dOneY_val (v := .one x) rfl rfl ?_
  refine dOneY_call (args := [.one x, int 10]) rfl rfl ((l1Size_c x hx).tot S1) ?_
  rintro v S2 ⟨hE2, k, rfl, hk0, hk1⟩
  have hb2 := hb2.same hE2.1
  refine dOneY_val (v := .ptr 1 0) rfl rfl ?_
  refine dOneY_call (args := [.ptr 1 0, int 4]) rfl rfl ((l1Once_c 1 x hx 4).tot S2 hb2.has) ?_
  rintro v S3 ⟨hm3, b, rfl⟩
  have hb2 := hb2.moved hm3
  refine dOneY_call (args := [.ptr 1 0, int k, bool b]) rfl rfl (l4Mod_t x hx k hk0 hk1 b hb2) ?_
  rintro v S4 ⟨⟨c, hb4⟩, m, rfl, hmt, hg⟩
  have hst : dStore (tabOf Tryz.prog) 30 (.ptr 0 0) m.av S4 = some { S4 with boxes := [(30, m.cs), c] } := by
    unfold dStore
    rw [T30, Option.bind_some]
    show ((S4.boxes[0]?).bind _) = _
    rw [hb4]
    rfl
  refine dOneY_val (v := .junk) (S' := { S4 with boxes := [(30, m.cs), c] }) rfl (by show ((dStore (tabOf Tryz.prog) 30 (.ptr 0 0) m.av S4).map fun S' => Res.val .junk S') = _; rw [hst]; rfl) ?_
  have hld : dLoad (tabOf Tryz.prog) 30 (.ptr 0 0) { S4 with boxes := [(30, m.cs), c] } = some m.av := by
    unfold dLoad
    rw [T30]
    rfl
  refine ⟨m.av, by show (((dLoad (tabOf Tryz.prog) 30 (.ptr 0 0) { S4 with boxes := [(30, m.cs), c] }).bind fun v => (some []).map fun vs => v :: vs).map _) = _; rw [hld]; rfl, [m.av], { S4 with boxes := [] }, [(30, m.cs), c], rfl, rfl, rfl, rfl, m, rfl, hmt, hg⟩
theorem DrawLint_c (x : AL) (hx : Src x) : CONR 5 [.one x] (fun _ v _ => rDrawn v) := by
  refine ⟨fun w0 S => (Tot.iso rfl (Q := fun v _ => rDrawn v) (fun v S1 ⟨m, hv, _⟩ => ⟨[m.av], hv, rfl⟩) (fun w0 _ => DrawLint_iso x hx w0 S.toks.length) ⟨Tryz.f5, by kernel_rfl, by kernel_rfl, by kernel_rfl⟩).mono ?_, fun _ _ _ _ _ h => h, fun n v S ⟨m, hv, hm, _⟩ => ?_⟩
  · rintro v S' ⟨S1, hn, _, hr, rfl⟩
    exact ⟨Ext.merge hn, hr⟩
  · subst hv
    exact hm.shape (f := 5) (fn := Tryz.f5) (by kernel_rfl) rfl
end Go.Proofs.YtkdickfiifpblaaGreatDoor.D
namespace Go.Proofs.YtkdickfiifpblaaGreatDoor.D
open Go Go.Den Go.Proofs
set_option maxRecDepth 100000
theorem hasImp_iff {m : Md} {s : BA} : hasImp m s = true ↔ s ∈ locals m := by
  unfold hasImp locals
  rw [List.any_eq_true, List.mem_map]
  constructor
  · rintro ⟨a, h, e⟩; exact ⟨a, h, of_decide_eq_true e⟩
  · rintro ⟨a, h, e⟩; exact ⟨a, h, decide_eq_true e⟩
theorem hasImp_eq (m : Md) (s : BA) : hasImp m s = memB s (locals m) := by
  rw [Bool.eq_iff_iff, hasImp_iff, memB_iff]
theorem writes_eq (m : Md) : setOf (wrP m) = writes m := by
  unfold wrP writes
  congr 2
  funext s
  unfold isWrP isWr
  rw [hasImp_eq]
theorem isDF_eq {m : Md} (g : Gd m) {s : Sm} (hs : s ∈ m.stmts) : isDF s = isLF s := by
  have h := (g.good s hs).2
  unfold isDF isLF
  by_cases h2 : s.k = 2
  · have := h h2
    simp [h2, this]
  · have h2' : (s.k == 2) = false := by simpa using h2
    rw [h2', Bool.false_or, Bool.or_false]
theorem declN_mem {m : Md} (g : Gd m) (x : BA) : x ∈ declN m ↔ x ∈ names m ++ locals m := by
  unfold declN names
  rw [List.mem_append, List.mem_append, fm_mem, fm_mem]
  constructor
  · rintro (h | ⟨a, h1, h2, h3⟩)
    · exact .inr h
    · exact .inl ⟨a, h1, by rw [← isDF_eq g h1]; exact h2, h3⟩
  · rintro (⟨a, h1, h2, h3⟩ | h)
    · exact .inr ⟨a, h1, by rw [isDF_eq g h1]; exact h2, h3⟩
    · exact .inl h
theorem memB_congr {x : BA} {l r : List BA} (h : x ∈ l ↔ x ∈ r) : memB x l = memB x r := by
  rw [Bool.eq_iff_iff, memB_iff, memB_iff]
  exact h
theorem freeP_eq {m : Md} (g : Gd m) : setOf (freeP m) = setOf (freeN m) := by
  refine ((setOf_is _).congr fun x => ?_).uniq (setOf_is _)
  unfold freeP freeN plainU freeE freeS
  rw [List.mem_filter, List.mem_append, List.mem_append, fm_mem, fm_mem, fm_mem, fm_mem, memB_congr (declN_mem g x)]
  constructor
  · rintro ⟨⟨a, h1, h2, h3⟩ | ⟨a, h1, h2, h3⟩, h4⟩
    · exact .inl ⟨a, h1, by rw [h2, h3]; exact h4, h3⟩
    · exact .inr ⟨a, h1, by rw [h2, h3]; exact h4, h3⟩
  · rintro (⟨a, h1, h2, h3⟩ | ⟨a, h1, h2, h3⟩)
    · rw [Bool.and_eq_true, h3] at h2
      exact ⟨.inl ⟨a, h1, h2.1, h3⟩, h2.2⟩
    · rw [Bool.and_eq_true, h3] at h2
      exact ⟨.inr ⟨a, h1, h2.1, h3⟩, h2.2⟩
theorem nevers_eq {m : Md} (g : Gd m) : setOf (nvP m) = nevers m := by
  refine ((setOf_is _).congr fun x => ?_).uniq (setOf_is _)
  unfold nvP isNvP
  rw [fm_mem, fm_mem]
  constructor
  · rintro ⟨a, h1, h2, h3⟩
    rw [Bool.and_eq_true] at h2
    refine ⟨x, ?_, by rw [← h3]; exact h2.2, rfl⟩
    unfold names
    refine fm_mem.2 ⟨a, h1, ?_, h3⟩
    unfold isLF
    rw [h2.1, Bool.true_and]
    refine decide_eq_true fun hd => ?_
    have hu : a.name ∉ setOf (uses m) := fun hin => by
      have := memB_iff.2 hin
      rw [this] at h2
      exact absurd h2.2 (by decide)
    rw [Bool.or_eq_true] at h2
    rcases h2.1 with h4 | h4
    · obtain ⟨y, hy, hk, hl⟩ := (g.good a h1).1 (eq_of_beq h4) hd
      refine hu (((setOf_is (uses m)).mem _).2 ?_)
      unfold uses
      refine List.mem_append_right _ (fm_mem.2 ⟨y, hy, by rw [hk]; rfl, ?_⟩)
      rw [hl, hd]
    · exact (g.good a h1).2 (eq_of_beq h4) hd
  · rintro ⟨y, h1, h2, h3⟩
    have h3 : y = x := h3
    subst h3
    unfold names at h1
    obtain ⟨a, h4, h5, h6⟩ := fm_mem.1 h1
    unfold isLF at h5
    rw [Bool.and_eq_true] at h5
    exact ⟨a, h4, by rw [h5.1, h6]; exact h2, h6⟩
theorem undB_eq : undB = undef := rfl
theorem freeL_eq {m : Md} (g : Gd m) : freeLP m = freeL m := by
  unfold freeLP freeL fm
  rw [freeP_eq g, List.map_id]
  congr 1
  funext s
  rw [undB_eq]
  by_cases h : s = undef <;> simp [h]
theorem lint_eq {m : Md} (g : Gd m) : lintP m = lintN m := by
  unfold lintP lintN
  rw [freeL_eq g, writes_eq, nevers_eq g, List.append_nil, List.append_assoc, List.append_assoc]
def nlt (a b : Nt) : Prop := a.k < b.k ∨ (a.k = b.k ∧ bl a.name b.name = true)
theorem nts_rise (k : Int) {l : List BA} (h : l.Pairwise fun a b => bl a b = true) : (nts k l).Pairwise nlt := by
  unfold nts
  rw [List.pairwise_map]
  exact h.imp fun h => .inr ⟨rfl, h⟩
theorem nts_k {k : Int} {l : List BA} {a : Nt} (h : a ∈ nts k l) : a.k = k ∧ a.name ∈ l := by
  unfold nts at h
  obtain ⟨s, hs, rfl⟩ := List.mem_map.1 h
  exact ⟨rfl, hs⟩
theorem lintP_rise (m : Md) : (lintP m).Pairwise nlt := by
  have hs : ∀ l, (setOf l).Pairwise fun a b => bl a b = true := fun l => (setOf_is l).rise
  have hf : (freeLP m).Pairwise fun a b => bl a b = true := (hs _).filter _
  unfold lintP
  rw [List.append_nil, List.pairwise_append, List.pairwise_append, List.pairwise_append]
  refine ⟨nts_rise 1 (hs _), ⟨nts_rise 2 hf, ⟨nts_rise 3 (hs _), nts_rise 4 (hs _), fun a ha b hb => .inl ?_⟩, fun a ha b hb => .inl ?_⟩, fun a ha b hb => .inl ?_⟩
  · rw [(nts_k ha).1, (nts_k hb).1]; decide
  · rw [(nts_k ha).1]
    rcases List.mem_append.1 hb with hb | hb <;> rw [(nts_k hb).1] <;> decide
  · rw [(nts_k ha).1]
    rcases List.mem_append.1 hb with hb | hb
    · rw [(nts_k hb).1]; decide
    · rcases List.mem_append.1 hb with hb | hb <;> rw [(nts_k hb).1] <;> decide
theorem lintP_next {m : Md} {i : Nat} {a b : Nt} (hi : 0 < i) (ha : (lintP m)[i - 1]? = some a) (hb : (lintP m)[i]? = some b) : nlt a b := by
  obtain ⟨h1, rfl⟩ := List.getElem?_eq_some_iff.1 ha
  obtain ⟨h2, rfl⟩ := List.getElem?_eq_some_iff.1 hb
  exact List.pairwise_iff_getElem.1 (lintP_rise m) _ _ h1 h2 (by omega)
def cnt2 (l : List Nt) : Nat := (l.filter fun a => a.k == 2).length
theorem cnt2_next {l : List Nt} {i : Nat} {a : Nt} (h : l[i]? = some a) : cnt2 (l.take (i + 1)) = if (a.k == 2) = true then cnt2 (l.take i) + 1 else cnt2 (l.take i) := by
  unfold cnt2
  rw [take_next h, List.filter_append, List.length_append]
  cases hk : a.k == 2 <;> simp [hk]
theorem cnt2_nts (k : Int) (l : List BA) : cnt2 (nts k l) = if k = 2 then l.length else 0 := by
  unfold cnt2
  split
  · next h =>
    rw [List.filter_eq_self.2 (fun a ha => by rw [(nts_k ha).1, h]; rfl), nts, List.length_map]
  · next h =>
    rw [List.filter_eq_nil_iff.2 (fun a ha => by rw [(nts_k ha).1]; simpa using h)]
    rfl
theorem cnt2_append (l r : List Nt) : cnt2 (l ++ r) = cnt2 l + cnt2 r := by unfold cnt2; rw [List.filter_append, List.length_append]
theorem cnt2_lint (m : Md) : cnt2 (lintP m) = (freeLP m).length := by
  unfold lintP
  rw [List.append_nil, cnt2_append, cnt2_append, cnt2_append, cnt2_nts, cnt2_nts, cnt2_nts, cnt2_nts]
  simp
theorem nodup_count {l : List BA} (h : l.Pairwise fun a b => bl a b = true) (s : BA) : (l.filter fun x => !decide (x = s)).length + (if memB s l = true then 1 else 0) = l.length := by
  induction l with
  | nil => rfl
  | cons x l ih =>
    obtain ⟨h1, h2⟩ := List.pairwise_cons.1 h
    have ih := ih h2
    by_cases hx : x = s
    · have hn : memB s l = false := by
        apply Bool.eq_false_iff.2
        intro hm
        have := h1 s (memB_iff.1 hm)
        rw [hx, bl_irrefl] at this
        cases this
      have hm : memB s (x :: l) = true := memB_iff.2 (by rw [hx]; exact List.mem_cons_self)
      rw [hn] at ih
      rw [hm, List.filter_cons_of_neg (by simp [hx]), List.length_cons, if_pos rfl]
      simpa using ih
    · have hm : memB s (x :: l) = memB s l := memB_congr (by rw [List.mem_cons]; constructor; rintro (e | h); exact absurd e.symm hx; exact h; exact .inr)
      rw [hm, List.filter_cons_of_pos (by simp [hx]), List.length_cons, List.length_cons]
      omega
theorem free_count {m : Md} (g : Gd m) : (freeLP m).length + (if memB undB (setOf (freeN m)) = true then 1 else 0) = (setOf (freeN m)).length := by
  have := nodup_count (setOf_is (freeN m)).rise undB
  rw [← freeP_eq g] at this ⊢
  exact this
theorem trim_unused (m : Md) (x0 z x2 x3 x4 : AL) : unused (trimM m x0 z x2 x3 x4) = [] := by
  have hu : uses (trimM m x0 z x2 x3 x4) = uses m := rfl
  unfold unused fm
  rw [hu, List.map_eq_nil_iff, List.filter_eq_nil_iff]
  intro a ha
  have ha : a ∈ m.imps.filter fun a => !memB a.loc (setOf (unused m)) := ha
  obtain ⟨h1, h2⟩ := List.mem_filter.1 ha
  intro h3
  rw [Bool.not_eq_true'] at h2
  have : a.loc ∈ setOf (unused m) := ((setOf_is (unused m)).mem _).2 (fm_mem.2 ⟨a, h1, h3, rfl⟩)
  rw [memB_iff.2 this] at h2
  cases h2
theorem trim_kind (m : Md) (x0 z x2 x3 x4 : AL) {a : Nt} (h : a ∈ lintP (trimM m x0 z x2 x3 x4)) : a.k ≠ 1 := by
  unfold lintP at h
  rw [trim_unused, List.append_nil] at h
  have h0 : nts 1 (setOf []) = [] := rfl
  rw [h0, List.nil_append] at h
  rcases List.mem_append.1 h with h | h
  · rw [(nts_k h).1]; decide
  · rcases List.mem_append.1 h with h | h <;> rw [(nts_k h).1] <;> decide
end Go.Proofs.YtkdickfiifpblaaGreatDoor.D
namespace Go.Proofs.YtkdickfiifpblaaGreatDoor.D
open Go Go.Den Go.Proofs
theorem v4 : ∀ (hk : Hk) (plans : Nat->Plan) (x0 : AL) (S : St) (Q : AV->St->Prop),wFn (Cf.of true) hk Tryz.prog (tabOf Tryz.prog) plans false 4 [.one x0] S Q=(true=true/\∃ n,x0.len?=some n/\true=true/\Q (.one (.bool (decide ((↑n : Int) > 1048576)))) S)
 := by intros; kernel_rfl
theorem v3 : ∀ (hk : Hk) (x0 : AL) (S : St) (Q : AV->St->Prop),wFn (Cf.of true) hk Tryz.prog (tabOf Tryz.prog) pl3 false 3 [.one x0] S Q=(true=true/\∃ R,hk.1 4 [.one x0] S [] R/\∀ (b : Bool) (S1 : St),R (.one (.bool b)) S1->(b=true->true=true/\Q (.one (.bool true)) S1)/\(b=false->∃ R,hk.1 5 [.one x0] S1 [] R/\∀ (x x_1 x_2 x_3 x_4 : AL) (S1 : St),R (.agg [x,x_1,x_2,x_3,x_4])
 S1->∃ R,hk.1 6 [.agg [x,x_1,x_2,x_3,x_4]] S1 [(30,[x,x_1,x_2,x_3,x_4])] R/\∀ (x_5 : AL) (S1 : St),R (.one x_5) S1->∃ R,hk.1 7 [.agg [x,x_1,x_2,x_3,x_4]] S1 [(30,[x,x_1,x_2,x_3,x_4])] R/\∀ (x_6 x_7 x_8 x_9 x_10 : AL) (S1 : St),R (.agg [x_6,x_7,x_8,x_9,x_10]) S1->∃ R,hk.1 6 [.agg [x_6,x_7,x_8,x_9,x_10]] S1 [(30,[x,x_1,x_2,x_3,x_4])] R/\∀ (x_11 : AL) (S1 : St),R (.one x_11)
 S1->hk.2 136 (codeOf Tryz.prog 3 [1,1,1,1,1,1,0,1,0,0]) [.blk 0,.seq (codeOf Tryz.prog 3 [1,1,1,1,1,1,1])] (wEnd (tabOf Tryz.prog) Tryz.f3 false S.boxes.length Q) [(7,.v (.one (.i 0))),(6,.v (.one (.i 0))),(5,.v (.one x_11)),(21,.v (.one x_11)),(20,.v (.agg [x_6,x_7,x_8,x_9,x_10])),(19,.v (.agg [x,x_1,x_2,x_3,x_4])),(4,.v (.one x_5)),(18,.v (.one x_5)),(17,.v (.agg
 [x,x_1,x_2,x_3,x_4])),(3,.loc 0 0),(16,.v (.agg [x,x_1,x_2,x_3,x_4])),(15,.v (.one x0)),(14,.v (.one (.bool b))),(13,.v (.one x0)),(2,.kb false),(0,.v (.one x0))] S1
 [(30,[x,x_1,x_2,x_3,x_4])]))
 := by intros; kernel_rfl
theorem b3_0 : ∀ (hk : Hk) (x x_1 : AL) (n7 n6 : Int) (b2 : Bool) (xL0_0 xL0_1 xL0_2 xL0_3 xL0_4 : AL) (S : St) (K : QW),wCode (Cf.of true) hk Tryz.prog (tabOf Tryz.prog) 136 pl3 1000 (codeOf Tryz.prog 3 [1,1,1,1,1,1,0,1,0,0]) [] (fun e env S L => K e (restr [7,6,5,4,3,2] env) S L) [(7,.v (.one (.i n7))),(6,.v (.one (.i n6))),(5,.v (.one x_1)),(4,.v (.one x)),(3,.loc 0 0),(2,.v
 (.one (.bool b2)))] S [(30,[xL0_0,xL0_1,xL0_2,xL0_3,xL0_4])]=∃ n,x.len?=some n/\(decide (n7 < (↑n : Int))=true->true=true/\(decide (n7 > 0)=true->in64 (n7 - 1)/\∃ tok n xs,x=.sl tok n xs/\0<=n7 - 1/\n7 - 1 < (↑n : Int)/\∃ tok n xs_1,x=.sl tok n xs_1/\0<=n7/\n7 < (↑n : Int)/\((∃ x,likeCells [.i 0] [x]=true/\(List.drop 0 (List.drop ((n7 - 1).toNat * 2) xs))[0]?=some x)/\∀ (n :
 Int),(List.drop 0 (List.drop ((n7 - 1).toNat * 2) xs))[0]?=some (.i n)->((∃ x,likeCells [.i 0] [x]=true/\(List.drop 0 (List.drop (n7.toNat * 2) xs_1))[0]?=some x)/\∀ (n_1 : Int),(List.drop 0 (List.drop (n7.toNat * 2) xs_1))[0]?=some (.i n_1)->(decide (n > n_1)=true->(((K .ret [(7,.v (.one (.i n7))),(6,.v (.one (.i n6))),(5,.v (.one x_1)),(4,.v (.one x)),(3,.loc 0 0),(2,.v (.one
 (.bool false)))] S [(30,[xL0_0,xL0_1,xL0_2,xL0_3,xL0_4])]/\True)/\(K .ret [(7,.v (.one (.i n7))),(6,.v (.one (.i n6))),(5,.v (.one x_1)),(4,.v (.one x)),(3,.loc 0 0),(2,.v (.one (.bool false)))] S [(30,[xL0_0,xL0_1,xL0_2,xL0_3,xL0_4])]/\True)/\True)/\True)/\(((K .ret [(7,.v (.one (.i n7))),(6,.v (.one (.i n6))),(5,.v (.one x_1)),(4,.v (.one x)),(3,.loc 0 0),(2,.v (.one (.bool
 false)))] S [(30,[xL0_0,xL0_1,xL0_2,xL0_3,xL0_4])]/\True)/\(K .ret [(7,.v (.one (.i n7))),(6,.v (.one (.i n6))),(5,.v (.one x_1)),(4,.v (.one x)),(3,.loc 0 0),(2,.v (.one (.bool false)))] S [(30,[xL0_0,xL0_1,xL0_2,xL0_3,xL0_4])]/\True)/\True)/\True)/\True)/\(decide (n > n_1)=false->in64 (n7 - 1)/\∃ tok n xs,x=.sl tok n xs/\0<=n7 - 1/\n7 - 1 < (↑n : Int)/\∃ tok n xs_2,x=.sl tok
 n xs_2/\0<=n7/\n7 < (↑n : Int)/\((∃ x,likeCells [.i 0] [x]=true/\(List.drop 0 (List.drop ((n7 - 1).toNat * 2) xs))[0]?=some x)/\∀ (n : Int),(List.drop 0 (List.drop ((n7 - 1).toNat * 2) xs))[0]?=some (.i n)->((∃ x,likeCells [.i 0] [x]=true/\(List.drop 0 (List.drop (n7.toNat * 2) xs_2))[0]?=some x)/\∀ (n_2 : Int),(List.drop 0 (List.drop (n7.toNat * 2) xs_2))[0]?=some (.i
 n_2)->((n == n_2)=true->in64 (n7 - 1)/\∃ tok n xs,x=.sl tok n xs/\0<=n7 - 1/\n7 - 1 < (↑n : Int)/\∃ tok n xs_3,x=.sl tok n xs_3/\0<=n7/\n7 < (↑n : Int)/\((∃ x,likeCells [.str k_] [x]=true/\(List.drop 1 (List.drop ((n7 - 1).toNat * 2) xs))[0]?=some x)/\∀ (s : ByteArray),(List.drop 1 (List.drop ((n7 - 1).toNat * 2) xs))[0]?=some (.str s)->((∃ x,likeCells [.str k_]
 [x]=true/\(List.drop 1 (List.drop (n7.toNat * 2) xs_3))[0]?=some x)/\∀ (s_1 : ByteArray),(List.drop 1 (List.drop (n7.toNat * 2) xs_3))[0]?=some (.str s_1)->((!Op.bytesLess s.toList s_1.toList)=true->K .ret [(7,.v (.one (.i n7))),(6,.v (.one (.i n6))),(5,.v (.one x_1)),(4,.v (.one x)),(3,.loc 0 0),(2,.v (.one (.bool false)))] S
 [(30,[xL0_0,xL0_1,xL0_2,xL0_3,xL0_4])])/\((!Op.bytesLess s.toList s_1.toList)=false->∃ tok n xs,x=.sl tok n xs/\0<=n7/\n7 < (↑n : Int)/\(∃ x,likeCells [.i 0] [x]=true/\(List.drop 0 (List.drop (n7.toNat * 2) xs))[0]?=some x)/\∀ (n : Int),(List.drop 0 (List.drop (n7.toNat * 2) xs))[0]?=some (.i n)->((n == 2)=true->in64 (n6 + 1)/\in64 (n7 + 1)/\K .normal [(7,.v (.one (.i (n7 +
 1)))),(6,.v (.one (.i (n6 + 1)))),(5,.v (.one x_1)),(4,.v (.one x)),(3,.loc 0 0),(2,.v (.one (.bool b2)))] S [(30,[xL0_0,xL0_1,xL0_2,xL0_3,xL0_4])])/\((n == 2)=false->in64 (n7 + 1)/\K .normal [(7,.v (.one (.i (n7 + 1)))),(6,.v (.one (.i n6))),(5,.v (.one x_1)),(4,.v (.one x)),(3,.loc 0 0),(2,.v (.one (.bool b2)))] S [(30,[xL0_0,xL0_1,xL0_2,xL0_3,xL0_4])])))/\True)/\((∃
 x,likeCells [.str k_] [x]=true/\(List.drop 1 (List.drop (n7.toNat * 2) xs_3))[0]?=some x)/\∀ (s : ByteArray),(List.drop 1 (List.drop (n7.toNat * 2) xs_3))[0]?=some (.str s)->((∃ x,likeCells [.str k_] [x]=true/\(List.drop 1 (List.drop ((n7 - 1).toNat * 2) xs))[0]?=some x)/\∀ (s_1 : ByteArray),(List.drop 1 (List.drop ((n7 - 1).toNat * 2) xs))[0]?=some (.str s_1)->((!Op.bytesLess
 s_1.toList s.toList)=true->K .ret [(7,.v (.one (.i n7))),(6,.v (.one (.i n6))),(5,.v (.one x_1)),(4,.v (.one x)),(3,.loc 0 0),(2,.v (.one (.bool false)))] S [(30,[xL0_0,xL0_1,xL0_2,xL0_3,xL0_4])])/\((!Op.bytesLess s_1.toList s.toList)=false->∃ tok n xs,x=.sl tok n xs/\0<=n7/\n7 < (↑n : Int)/\(∃ x,likeCells [.i 0] [x]=true/\(List.drop 0 (List.drop (n7.toNat * 2) xs))[0]?=some
 x)/\∀ (n : Int),(List.drop 0 (List.drop (n7.toNat * 2) xs))[0]?=some (.i n)->((n == 2)=true->in64 (n6 + 1)/\in64 (n7 + 1)/\K .normal [(7,.v (.one (.i (n7 + 1)))),(6,.v (.one (.i (n6 + 1)))),(5,.v (.one x_1)),(4,.v (.one x)),(3,.loc 0 0),(2,.v (.one (.bool b2)))] S [(30,[xL0_0,xL0_1,xL0_2,xL0_3,xL0_4])])/\((n == 2)=false->in64 (n7 + 1)/\K .normal [(7,.v (.one (.i (n7 +
 1)))),(6,.v (.one (.i n6))),(5,.v (.one x_1)),(4,.v (.one x)),(3,.loc 0 0),(2,.v (.one (.bool b2)))] S [(30,[xL0_0,xL0_1,xL0_2,xL0_3,xL0_4])])))/\True)/\True)/\((n == n_2)=false->((∃ tok n xs,x=.sl tok n xs/\0<=n7/\n7 < (↑n : Int)/\(∃ x,likeCells [.i 0] [x]=true/\(List.drop 0 (List.drop (n7.toNat * 2) xs))[0]?=some x)/\∀ (n : Int),(List.drop 0 (List.drop (n7.toNat * 2)
 xs))[0]?=some (.i n)->((n == 2)=true->in64 (n6 + 1)/\in64 (n7 + 1)/\K .normal [(7,.v (.one (.i (n7 + 1)))),(6,.v (.one (.i (n6 + 1)))),(5,.v (.one x_1)),(4,.v (.one x)),(3,.loc 0 0),(2,.v (.one (.bool b2)))] S [(30,[xL0_0,xL0_1,xL0_2,xL0_3,xL0_4])])/\((n == 2)=false->in64 (n7 + 1)/\K .normal [(7,.v (.one (.i (n7 + 1)))),(6,.v (.one (.i n6))),(5,.v (.one x_1)),(4,.v (.one
 x)),(3,.loc 0 0),(2,.v (.one (.bool b2)))] S [(30,[xL0_0,xL0_1,xL0_2,xL0_3,xL0_4])]))/\True)/\((∃ tok n xs,x=.sl tok n xs/\0<=n7/\n7 < (↑n : Int)/\(∃ x,likeCells [.i 0] [x]=true/\(List.drop 0 (List.drop (n7.toNat * 2) xs))[0]?=some x)/\∀ (n : Int),(List.drop 0 (List.drop (n7.toNat * 2) xs))[0]?=some (.i n)->((n == 2)=true->in64 (n6 + 1)/\in64 (n7 + 1)/\K .normal [(7,.v (.one
 (.i (n7 + 1)))),(6,.v (.one (.i (n6 + 1)))),(5,.v (.one x_1)),(4,.v (.one x)),(3,.loc 0 0),(2,.v (.one (.bool b2)))] S [(30,[xL0_0,xL0_1,xL0_2,xL0_3,xL0_4])])/\((n == 2)=false->in64 (n7 + 1)/\K .normal [(7,.v (.one (.i (n7 + 1)))),(6,.v (.one (.i n6))),(5,.v (.one x_1)),(4,.v (.one x)),(3,.loc 0 0),(2,.v (.one (.bool b2)))] S
 [(30,[xL0_0,xL0_1,xL0_2,xL0_3,xL0_4])]))/\True)/\True))/\True)/\((∃ x,likeCells [.i 0] [x]=true/\(List.drop 0 (List.drop (n7.toNat * 2) xs_2))[0]?=some x)/\∀ (n : Int),(List.drop 0 (List.drop (n7.toNat * 2) xs_2))[0]?=some (.i n)->((∃ x,likeCells [.i 0] [x]=true/\(List.drop 0 (List.drop ((n7 - 1).toNat * 2) xs))[0]?=some x)/\∀ (n_2 : Int),(List.drop 0 (List.drop ((n7 - 1).toNat
 * 2) xs))[0]?=some (.i n_2)->((n_2 == n)=true->in64 (n7 - 1)/\∃ tok n xs,x=.sl tok n xs/\0<=n7 - 1/\n7 - 1 < (↑n : Int)/\∃ tok n xs_3,x=.sl tok n xs_3/\0<=n7/\n7 < (↑n : Int)/\((∃ x,likeCells [.str k_] [x]=true/\(List.drop 1 (List.drop ((n7 - 1).toNat * 2) xs))[0]?=some x)/\∀ (s : ByteArray),(List.drop 1 (List.drop ((n7 - 1).toNat * 2) xs))[0]?=some (.str s)->((∃ x,likeCells
 [.str k_] [x]=true/\(List.drop 1 (List.drop (n7.toNat * 2) xs_3))[0]?=some x)/\∀ (s_1 : ByteArray),(List.drop 1 (List.drop (n7.toNat * 2) xs_3))[0]?=some (.str s_1)->((!Op.bytesLess s.toList s_1.toList)=true->K .ret [(7,.v (.one (.i n7))),(6,.v (.one (.i n6))),(5,.v (.one x_1)),(4,.v (.one x)),(3,.loc 0 0),(2,.v (.one (.bool false)))] S
 [(30,[xL0_0,xL0_1,xL0_2,xL0_3,xL0_4])])/\((!Op.bytesLess s.toList s_1.toList)=false->∃ tok n xs,x=.sl tok n xs/\0<=n7/\n7 < (↑n : Int)/\(∃ x,likeCells [.i 0] [x]=true/\(List.drop 0 (List.drop (n7.toNat * 2) xs))[0]?=some x)/\∀ (n : Int),(List.drop 0 (List.drop (n7.toNat * 2) xs))[0]?=some (.i n)->((n == 2)=true->in64 (n6 + 1)/\in64 (n7 + 1)/\K .normal [(7,.v (.one (.i (n7 +
 1)))),(6,.v (.one (.i (n6 + 1)))),(5,.v (.one x_1)),(4,.v (.one x)),(3,.loc 0 0),(2,.v (.one (.bool b2)))] S [(30,[xL0_0,xL0_1,xL0_2,xL0_3,xL0_4])])/\((n == 2)=false->in64 (n7 + 1)/\K .normal [(7,.v (.one (.i (n7 + 1)))),(6,.v (.one (.i n6))),(5,.v (.one x_1)),(4,.v (.one x)),(3,.loc 0 0),(2,.v (.one (.bool b2)))] S [(30,[xL0_0,xL0_1,xL0_2,xL0_3,xL0_4])])))/\True)/\((∃
 x,likeCells [.str k_] [x]=true/\(List.drop 1 (List.drop (n7.toNat * 2) xs_3))[0]?=some x)/\∀ (s : ByteArray),(List.drop 1 (List.drop (n7.toNat * 2) xs_3))[0]?=some (.str s)->((∃ x,likeCells [.str k_] [x]=true/\(List.drop 1 (List.drop ((n7 - 1).toNat * 2) xs))[0]?=some x)/\∀ (s_1 : ByteArray),(List.drop 1 (List.drop ((n7 - 1).toNat * 2) xs))[0]?=some (.str s_1)->((!Op.bytesLess
 s_1.toList s.toList)=true->K .ret [(7,.v (.one (.i n7))),(6,.v (.one (.i n6))),(5,.v (.one x_1)),(4,.v (.one x)),(3,.loc 0 0),(2,.v (.one (.bool false)))] S [(30,[xL0_0,xL0_1,xL0_2,xL0_3,xL0_4])])/\((!Op.bytesLess s_1.toList s.toList)=false->∃ tok n xs,x=.sl tok n xs/\0<=n7/\n7 < (↑n : Int)/\(∃ x,likeCells [.i 0] [x]=true/\(List.drop 0 (List.drop (n7.toNat * 2) xs))[0]?=some
 x)/\∀ (n : Int),(List.drop 0 (List.drop (n7.toNat * 2) xs))[0]?=some (.i n)->((n == 2)=true->in64 (n6 + 1)/\in64 (n7 + 1)/\K .normal [(7,.v (.one (.i (n7 + 1)))),(6,.v (.one (.i (n6 + 1)))),(5,.v (.one x_1)),(4,.v (.one x)),(3,.loc 0 0),(2,.v (.one (.bool b2)))] S [(30,[xL0_0,xL0_1,xL0_2,xL0_3,xL0_4])])/\((n == 2)=false->in64 (n7 + 1)/\K .normal [(7,.v (.one (.i (n7 +
 1)))),(6,.v (.one (.i n6))),(5,.v (.one x_1)),(4,.v (.one x)),(3,.loc 0 0),(2,.v (.one (.bool b2)))] S [(30,[xL0_0,xL0_1,xL0_2,xL0_3,xL0_4])])))/\True)/\True)/\((n_2 == n)=false->((∃ tok n xs,x=.sl tok n xs/\0<=n7/\n7 < (↑n : Int)/\(∃ x,likeCells [.i 0] [x]=true/\(List.drop 0 (List.drop (n7.toNat * 2) xs))[0]?=some x)/\∀ (n : Int),(List.drop 0 (List.drop (n7.toNat * 2)
 xs))[0]?=some (.i n)->((n == 2)=true->in64 (n6 + 1)/\in64 (n7 + 1)/\K .normal [(7,.v (.one (.i (n7 + 1)))),(6,.v (.one (.i (n6 + 1)))),(5,.v (.one x_1)),(4,.v (.one x)),(3,.loc 0 0),(2,.v (.one (.bool b2)))] S [(30,[xL0_0,xL0_1,xL0_2,xL0_3,xL0_4])])/\((n == 2)=false->in64 (n7 + 1)/\K .normal [(7,.v (.one (.i (n7 + 1)))),(6,.v (.one (.i n6))),(5,.v (.one x_1)),(4,.v (.one
 x)),(3,.loc 0 0),(2,.v (.one (.bool b2)))] S [(30,[xL0_0,xL0_1,xL0_2,xL0_3,xL0_4])]))/\True)/\((∃ tok n xs,x=.sl tok n xs/\0<=n7/\n7 < (↑n : Int)/\(∃ x,likeCells [.i 0] [x]=true/\(List.drop 0 (List.drop (n7.toNat * 2) xs))[0]?=some x)/\∀ (n : Int),(List.drop 0 (List.drop (n7.toNat * 2) xs))[0]?=some (.i n)->((n == 2)=true->in64 (n6 + 1)/\in64 (n7 + 1)/\K .normal [(7,.v (.one
 (.i (n7 + 1)))),(6,.v (.one (.i (n6 + 1)))),(5,.v (.one x_1)),(4,.v (.one x)),(3,.loc 0 0),(2,.v (.one (.bool b2)))] S [(30,[xL0_0,xL0_1,xL0_2,xL0_3,xL0_4])])/\((n == 2)=false->in64 (n7 + 1)/\K .normal [(7,.v (.one (.i (n7 + 1)))),(6,.v (.one (.i n6))),(5,.v (.one x_1)),(4,.v (.one x)),(3,.loc 0 0),(2,.v (.one (.bool b2)))] S
 [(30,[xL0_0,xL0_1,xL0_2,xL0_3,xL0_4])]))/\True)/\True))/\True)/\True))/\True)/\((∃ x,likeCells [.i 0] [x]=true/\(List.drop 0 (List.drop (n7.toNat * 2) xs_1))[0]?=some x)/\∀ (n : Int),(List.drop 0 (List.drop (n7.toNat * 2) xs_1))[0]?=some (.i n)->((∃ x,likeCells [.i 0] [x]=true/\(List.drop 0 (List.drop ((n7 - 1).toNat * 2) xs))[0]?=some x)/\∀ (n_1 : Int),(List.drop 0 (List.drop
 ((n7 - 1).toNat * 2) xs))[0]?=some (.i n_1)->(decide (n_1 > n)=true->(((K .ret [(7,.v (.one (.i n7))),(6,.v (.one (.i n6))),(5,.v (.one x_1)),(4,.v (.one x)),(3,.loc 0 0),(2,.v (.one (.bool false)))] S [(30,[xL0_0,xL0_1,xL0_2,xL0_3,xL0_4])]/\True)/\(K .ret [(7,.v (.one (.i n7))),(6,.v (.one (.i n6))),(5,.v (.one x_1)),(4,.v (.one x)),(3,.loc 0 0),(2,.v (.one (.bool false)))] S
 [(30,[xL0_0,xL0_1,xL0_2,xL0_3,xL0_4])]/\True)/\True)/\True)/\(((K .ret [(7,.v (.one (.i n7))),(6,.v (.one (.i n6))),(5,.v (.one x_1)),(4,.v (.one x)),(3,.loc 0 0),(2,.v (.one (.bool false)))] S [(30,[xL0_0,xL0_1,xL0_2,xL0_3,xL0_4])]/\True)/\(K .ret [(7,.v (.one (.i n7))),(6,.v (.one (.i n6))),(5,.v (.one x_1)),(4,.v (.one x)),(3,.loc 0 0),(2,.v (.one (.bool false)))] S
 [(30,[xL0_0,xL0_1,xL0_2,xL0_3,xL0_4])]/\True)/\True)/\True)/\True)/\(decide (n_1 > n)=false->in64 (n7 - 1)/\∃ tok n xs,x=.sl tok n xs/\0<=n7 - 1/\n7 - 1 < (↑n : Int)/\∃ tok n xs_2,x=.sl tok n xs_2/\0<=n7/\n7 < (↑n : Int)/\((∃ x,likeCells [.i 0] [x]=true/\(List.drop 0 (List.drop ((n7 - 1).toNat * 2) xs))[0]?=some x)/\∀ (n : Int),(List.drop 0 (List.drop ((n7 - 1).toNat * 2)
 xs))[0]?=some (.i n)->((∃ x,likeCells [.i 0] [x]=true/\(List.drop 0 (List.drop (n7.toNat * 2) xs_2))[0]?=some x)/\∀ (n_2 : Int),(List.drop 0 (List.drop (n7.toNat * 2) xs_2))[0]?=some (.i n_2)->((n == n_2)=true->in64 (n7 - 1)/\∃ tok n xs,x=.sl tok n xs/\0<=n7 - 1/\n7 - 1 < (↑n : Int)/\∃ tok n xs_3,x=.sl tok n xs_3/\0<=n7/\n7 < (↑n : Int)/\((∃ x,likeCells [.str k_]
 [x]=true/\(List.drop 1 (List.drop ((n7 - 1).toNat * 2) xs))[0]?=some x)/\∀ (s : ByteArray),(List.drop 1 (List.drop ((n7 - 1).toNat * 2) xs))[0]?=some (.str s)->((∃ x,likeCells [.str k_] [x]=true/\(List.drop 1 (List.drop (n7.toNat * 2) xs_3))[0]?=some x)/\∀ (s_1 : ByteArray),(List.drop 1 (List.drop (n7.toNat * 2) xs_3))[0]?=some (.str s_1)->((!Op.bytesLess s.toList
 s_1.toList)=true->K .ret [(7,.v (.one (.i n7))),(6,.v (.one (.i n6))),(5,.v (.one x_1)),(4,.v (.one x)),(3,.loc 0 0),(2,.v (.one (.bool false)))] S [(30,[xL0_0,xL0_1,xL0_2,xL0_3,xL0_4])])/\((!Op.bytesLess s.toList s_1.toList)=false->∃ tok n xs,x=.sl tok n xs/\0<=n7/\n7 < (↑n : Int)/\(∃ x,likeCells [.i 0] [x]=true/\(List.drop 0 (List.drop (n7.toNat * 2) xs))[0]?=some x)/\∀ (n :
 Int),(List.drop 0 (List.drop (n7.toNat * 2) xs))[0]?=some (.i n)->((n == 2)=true->in64 (n6 + 1)/\in64 (n7 + 1)/\K .normal [(7,.v (.one (.i (n7 + 1)))),(6,.v (.one (.i (n6 + 1)))),(5,.v (.one x_1)),(4,.v (.one x)),(3,.loc 0 0),(2,.v (.one (.bool b2)))] S [(30,[xL0_0,xL0_1,xL0_2,xL0_3,xL0_4])])/\((n == 2)=false->in64 (n7 + 1)/\K .normal [(7,.v (.one (.i (n7 + 1)))),(6,.v (.one
 (.i n6))),(5,.v (.one x_1)),(4,.v (.one x)),(3,.loc 0 0),(2,.v (.one (.bool b2)))] S [(30,[xL0_0,xL0_1,xL0_2,xL0_3,xL0_4])])))/\True)/\((∃ x,likeCells [.str k_] [x]=true/\(List.drop 1 (List.drop (n7.toNat * 2) xs_3))[0]?=some x)/\∀ (s : ByteArray),(List.drop 1 (List.drop (n7.toNat * 2) xs_3))[0]?=some (.str s)->((∃ x,likeCells [.str k_] [x]=true/\(List.drop 1 (List.drop ((n7 -
 1).toNat * 2) xs))[0]?=some x)/\∀ (s_1 : ByteArray),(List.drop 1 (List.drop ((n7 - 1).toNat * 2) xs))[0]?=some (.str s_1)->((!Op.bytesLess s_1.toList s.toList)=true->K .ret [(7,.v (.one (.i n7))),(6,.v (.one (.i n6))),(5,.v (.one x_1)),(4,.v (.one x)),(3,.loc 0 0),(2,.v (.one (.bool false)))] S [(30,[xL0_0,xL0_1,xL0_2,xL0_3,xL0_4])])/\((!Op.bytesLess s_1.toList
 s.toList)=false->∃ tok n xs,x=.sl tok n xs/\0<=n7/\n7 < (↑n : Int)/\(∃ x,likeCells [.i 0] [x]=true/\(List.drop 0 (List.drop (n7.toNat * 2) xs))[0]?=some x)/\∀ (n : Int),(List.drop 0 (List.drop (n7.toNat * 2) xs))[0]?=some (.i n)->((n == 2)=true->in64 (n6 + 1)/\in64 (n7 + 1)/\K .normal [(7,.v (.one (.i (n7 + 1)))),(6,.v (.one (.i (n6 + 1)))),(5,.v (.one x_1)),(4,.v (.one
 x)),(3,.loc 0 0),(2,.v (.one (.bool b2)))] S [(30,[xL0_0,xL0_1,xL0_2,xL0_3,xL0_4])])/\((n == 2)=false->in64 (n7 + 1)/\K .normal [(7,.v (.one (.i (n7 + 1)))),(6,.v (.one (.i n6))),(5,.v (.one x_1)),(4,.v (.one x)),(3,.loc 0 0),(2,.v (.one (.bool b2)))] S [(30,[xL0_0,xL0_1,xL0_2,xL0_3,xL0_4])])))/\True)/\True)/\((n == n_2)=false->((∃ tok n xs,x=.sl tok n xs/\0<=n7/\n7 < (↑n :
 Int)/\(∃ x,likeCells [.i 0] [x]=true/\(List.drop 0 (List.drop (n7.toNat * 2) xs))[0]?=some x)/\∀ (n : Int),(List.drop 0 (List.drop (n7.toNat * 2) xs))[0]?=some (.i n)->((n == 2)=true->in64 (n6 + 1)/\in64 (n7 + 1)/\K .normal [(7,.v (.one (.i (n7 + 1)))),(6,.v (.one (.i (n6 + 1)))),(5,.v (.one x_1)),(4,.v (.one x)),(3,.loc 0 0),(2,.v (.one (.bool b2)))] S
 [(30,[xL0_0,xL0_1,xL0_2,xL0_3,xL0_4])])/\((n == 2)=false->in64 (n7 + 1)/\K .normal [(7,.v (.one (.i (n7 + 1)))),(6,.v (.one (.i n6))),(5,.v (.one x_1)),(4,.v (.one x)),(3,.loc 0 0),(2,.v (.one (.bool b2)))] S [(30,[xL0_0,xL0_1,xL0_2,xL0_3,xL0_4])]))/\True)/\((∃ tok n xs,x=.sl tok n xs/\0<=n7/\n7 < (↑n : Int)/\(∃ x,likeCells [.i 0] [x]=true/\(List.drop 0 (List.drop (n7.toNat *
 2) xs))[0]?=some x)/\∀ (n : Int),(List.drop 0 (List.drop (n7.toNat * 2) xs))[0]?=some (.i n)->((n == 2)=true->in64 (n6 + 1)/\in64 (n7 + 1)/\K .normal [(7,.v (.one (.i (n7 + 1)))),(6,.v (.one (.i (n6 + 1)))),(5,.v (.one x_1)),(4,.v (.one x)),(3,.loc 0 0),(2,.v (.one (.bool b2)))] S [(30,[xL0_0,xL0_1,xL0_2,xL0_3,xL0_4])])/\((n == 2)=false->in64 (n7 + 1)/\K .normal [(7,.v (.one
 (.i (n7 + 1)))),(6,.v (.one (.i n6))),(5,.v (.one x_1)),(4,.v (.one x)),(3,.loc 0 0),(2,.v (.one (.bool b2)))] S [(30,[xL0_0,xL0_1,xL0_2,xL0_3,xL0_4])]))/\True)/\True))/\True)/\((∃ x,likeCells [.i 0] [x]=true/\(List.drop 0 (List.drop (n7.toNat * 2) xs_2))[0]?=some x)/\∀ (n : Int),(List.drop 0 (List.drop (n7.toNat * 2) xs_2))[0]?=some (.i n)->((∃ x,likeCells [.i 0]
 [x]=true/\(List.drop 0 (List.drop ((n7 - 1).toNat * 2) xs))[0]?=some x)/\∀ (n_2 : Int),(List.drop 0 (List.drop ((n7 - 1).toNat * 2) xs))[0]?=some (.i n_2)->((n_2 == n)=true->in64 (n7 - 1)/\∃ tok n xs,x=.sl tok n xs/\0<=n7 - 1/\n7 - 1 < (↑n : Int)/\∃ tok n xs_3,x=.sl tok n xs_3/\0<=n7/\n7 < (↑n : Int)/\((∃ x,likeCells [.str k_] [x]=true/\(List.drop 1 (List.drop ((n7 - 1).toNat *
 2) xs))[0]?=some x)/\∀ (s : ByteArray),(List.drop 1 (List.drop ((n7 - 1).toNat * 2) xs))[0]?=some (.str s)->((∃ x,likeCells [.str k_] [x]=true/\(List.drop 1 (List.drop (n7.toNat * 2) xs_3))[0]?=some x)/\∀ (s_1 : ByteArray),(List.drop 1 (List.drop (n7.toNat * 2) xs_3))[0]?=some (.str s_1)->((!Op.bytesLess s.toList s_1.toList)=true->K .ret [(7,.v (.one (.i n7))),(6,.v (.one (.i
 n6))),(5,.v (.one x_1)),(4,.v (.one x)),(3,.loc 0 0),(2,.v (.one (.bool false)))] S [(30,[xL0_0,xL0_1,xL0_2,xL0_3,xL0_4])])/\((!Op.bytesLess s.toList s_1.toList)=false->∃ tok n xs,x=.sl tok n xs/\0<=n7/\n7 < (↑n : Int)/\(∃ x,likeCells [.i 0] [x]=true/\(List.drop 0 (List.drop (n7.toNat * 2) xs))[0]?=some x)/\∀ (n : Int),(List.drop 0 (List.drop (n7.toNat * 2) xs))[0]?=some (.i
 n)->((n == 2)=true->in64 (n6 + 1)/\in64 (n7 + 1)/\K .normal [(7,.v (.one (.i (n7 + 1)))),(6,.v (.one (.i (n6 + 1)))),(5,.v (.one x_1)),(4,.v (.one x)),(3,.loc 0 0),(2,.v (.one (.bool b2)))] S [(30,[xL0_0,xL0_1,xL0_2,xL0_3,xL0_4])])/\((n == 2)=false->in64 (n7 + 1)/\K .normal [(7,.v (.one (.i (n7 + 1)))),(6,.v (.one (.i n6))),(5,.v (.one x_1)),(4,.v (.one x)),(3,.loc 0 0),(2,.v
 (.one (.bool b2)))] S [(30,[xL0_0,xL0_1,xL0_2,xL0_3,xL0_4])])))/\True)/\((∃ x,likeCells [.str k_] [x]=true/\(List.drop 1 (List.drop (n7.toNat * 2) xs_3))[0]?=some x)/\∀ (s : ByteArray),(List.drop 1 (List.drop (n7.toNat * 2) xs_3))[0]?=some (.str s)->((∃ x,likeCells [.str k_] [x]=true/\(List.drop 1 (List.drop ((n7 - 1).toNat * 2) xs))[0]?=some x)/\∀ (s_1 : ByteArray),(List.drop
 1 (List.drop ((n7 - 1).toNat * 2) xs))[0]?=some (.str s_1)->((!Op.bytesLess s_1.toList s.toList)=true->K .ret [(7,.v (.one (.i n7))),(6,.v (.one (.i n6))),(5,.v (.one x_1)),(4,.v (.one x)),(3,.loc 0 0),(2,.v (.one (.bool false)))] S [(30,[xL0_0,xL0_1,xL0_2,xL0_3,xL0_4])])/\((!Op.bytesLess s_1.toList s.toList)=false->∃ tok n xs,x=.sl tok n xs/\0<=n7/\n7 < (↑n : Int)/\(∃
 x,likeCells [.i 0] [x]=true/\(List.drop 0 (List.drop (n7.toNat * 2) xs))[0]?=some x)/\∀ (n : Int),(List.drop 0 (List.drop (n7.toNat * 2) xs))[0]?=some (.i n)->((n == 2)=true->in64 (n6 + 1)/\in64 (n7 + 1)/\K .normal [(7,.v (.one (.i (n7 + 1)))),(6,.v (.one (.i (n6 + 1)))),(5,.v (.one x_1)),(4,.v (.one x)),(3,.loc 0 0),(2,.v (.one (.bool b2)))] S
 [(30,[xL0_0,xL0_1,xL0_2,xL0_3,xL0_4])])/\((n == 2)=false->in64 (n7 + 1)/\K .normal [(7,.v (.one (.i (n7 + 1)))),(6,.v (.one (.i n6))),(5,.v (.one x_1)),(4,.v (.one x)),(3,.loc 0 0),(2,.v (.one (.bool b2)))] S [(30,[xL0_0,xL0_1,xL0_2,xL0_3,xL0_4])])))/\True)/\True)/\((n_2 == n)=false->((∃ tok n xs,x=.sl tok n xs/\0<=n7/\n7 < (↑n : Int)/\(∃ x,likeCells [.i 0] [x]=true/\(List.drop
 0 (List.drop (n7.toNat * 2) xs))[0]?=some x)/\∀ (n : Int),(List.drop 0 (List.drop (n7.toNat * 2) xs))[0]?=some (.i n)->((n == 2)=true->in64 (n6 + 1)/\in64 (n7 + 1)/\K .normal [(7,.v (.one (.i (n7 + 1)))),(6,.v (.one (.i (n6 + 1)))),(5,.v (.one x_1)),(4,.v (.one x)),(3,.loc 0 0),(2,.v (.one (.bool b2)))] S [(30,[xL0_0,xL0_1,xL0_2,xL0_3,xL0_4])])/\((n == 2)=false->in64 (n7 +
 1)/\K .normal [(7,.v (.one (.i (n7 + 1)))),(6,.v (.one (.i n6))),(5,.v (.one x_1)),(4,.v (.one x)),(3,.loc 0 0),(2,.v (.one (.bool b2)))] S [(30,[xL0_0,xL0_1,xL0_2,xL0_3,xL0_4])]))/\True)/\((∃ tok n xs,x=.sl tok n xs/\0<=n7/\n7 < (↑n : Int)/\(∃ x,likeCells [.i 0] [x]=true/\(List.drop 0 (List.drop (n7.toNat * 2) xs))[0]?=some x)/\∀ (n : Int),(List.drop 0 (List.drop (n7.toNat *
 2) xs))[0]?=some (.i n)->((n == 2)=true->in64 (n6 + 1)/\in64 (n7 + 1)/\K .normal [(7,.v (.one (.i (n7 + 1)))),(6,.v (.one (.i (n6 + 1)))),(5,.v (.one x_1)),(4,.v (.one x)),(3,.loc 0 0),(2,.v (.one (.bool b2)))] S [(30,[xL0_0,xL0_1,xL0_2,xL0_3,xL0_4])])/\((n == 2)=false->in64 (n7 + 1)/\K .normal [(7,.v (.one (.i (n7 + 1)))),(6,.v (.one (.i n6))),(5,.v (.one x_1)),(4,.v (.one
 x)),(3,.loc 0 0),(2,.v (.one (.bool b2)))] S [(30,[xL0_0,xL0_1,xL0_2,xL0_3,xL0_4])]))/\True)/\True))/\True)/\True))/\True)/\True)/\(decide (n7 > 0)=false->((((((∃ tok n xs,x=.sl tok n xs/\0<=n7/\n7 < (↑n : Int)/\(∃ x,likeCells [.i 0] [x]=true/\(List.drop 0 (List.drop (n7.toNat * 2) xs))[0]?=some x)/\∀ (n : Int),(List.drop 0 (List.drop (n7.toNat * 2) xs))[0]?=some (.i n)->((n ==
 2)=true->in64 (n6 + 1)/\in64 (n7 + 1)/\K .normal [(7,.v (.one (.i (n7 + 1)))),(6,.v (.one (.i (n6 + 1)))),(5,.v (.one x_1)),(4,.v (.one x)),(3,.loc 0 0),(2,.v (.one (.bool b2)))] S [(30,[xL0_0,xL0_1,xL0_2,xL0_3,xL0_4])])/\((n == 2)=false->in64 (n7 + 1)/\K .normal [(7,.v (.one (.i (n7 + 1)))),(6,.v (.one (.i n6))),(5,.v (.one x_1)),(4,.v (.one x)),(3,.loc 0 0),(2,.v (.one (.bool
 b2)))] S [(30,[xL0_0,xL0_1,xL0_2,xL0_3,xL0_4])]))/\True)/\((∃ tok n xs,x=.sl tok n xs/\0<=n7/\n7 < (↑n : Int)/\(∃ x,likeCells [.i 0] [x]=true/\(List.drop 0 (List.drop (n7.toNat * 2) xs))[0]?=some x)/\∀ (n : Int),(List.drop 0 (List.drop (n7.toNat * 2) xs))[0]?=some (.i n)->((n == 2)=true->in64 (n6 + 1)/\in64 (n7 + 1)/\K .normal [(7,.v (.one (.i (n7 + 1)))),(6,.v (.one (.i (n6 +
 1)))),(5,.v (.one x_1)),(4,.v (.one x)),(3,.loc 0 0),(2,.v (.one (.bool b2)))] S [(30,[xL0_0,xL0_1,xL0_2,xL0_3,xL0_4])])/\((n == 2)=false->in64 (n7 + 1)/\K .normal [(7,.v (.one (.i (n7 + 1)))),(6,.v (.one (.i n6))),(5,.v (.one x_1)),(4,.v (.one x)),(3,.loc 0 0),(2,.v (.one (.bool b2)))] S [(30,[xL0_0,xL0_1,xL0_2,xL0_3,xL0_4])]))/\True)/\True)/\True)/\((((∃ tok n xs,x=.sl tok n
 xs/\0<=n7/\n7 < (↑n : Int)/\(∃ x,likeCells [.i 0] [x]=true/\(List.drop 0 (List.drop (n7.toNat * 2) xs))[0]?=some x)/\∀ (n : Int),(List.drop 0 (List.drop (n7.toNat * 2) xs))[0]?=some (.i n)->((n == 2)=true->in64 (n6 + 1)/\in64 (n7 + 1)/\K .normal [(7,.v (.one (.i (n7 + 1)))),(6,.v (.one (.i (n6 + 1)))),(5,.v (.one x_1)),(4,.v (.one x)),(3,.loc 0 0),(2,.v (.one (.bool b2)))] S
 [(30,[xL0_0,xL0_1,xL0_2,xL0_3,xL0_4])])/\((n == 2)=false->in64 (n7 + 1)/\K .normal [(7,.v (.one (.i (n7 + 1)))),(6,.v (.one (.i n6))),(5,.v (.one x_1)),(4,.v (.one x)),(3,.loc 0 0),(2,.v (.one (.bool b2)))] S [(30,[xL0_0,xL0_1,xL0_2,xL0_3,xL0_4])]))/\True)/\((∃ tok n xs,x=.sl tok n xs/\0<=n7/\n7 < (↑n : Int)/\(∃ x,likeCells [.i 0] [x]=true/\(List.drop 0 (List.drop (n7.toNat *
 2) xs))[0]?=some x)/\∀ (n : Int),(List.drop 0 (List.drop (n7.toNat * 2) xs))[0]?=some (.i n)->((n == 2)=true->in64 (n6 + 1)/\in64 (n7 + 1)/\K .normal [(7,.v (.one (.i (n7 + 1)))),(6,.v (.one (.i (n6 + 1)))),(5,.v (.one x_1)),(4,.v (.one x)),(3,.loc 0 0),(2,.v (.one (.bool b2)))] S [(30,[xL0_0,xL0_1,xL0_2,xL0_3,xL0_4])])/\((n == 2)=false->in64 (n7 + 1)/\K .normal [(7,.v (.one
 (.i (n7 + 1)))),(6,.v (.one (.i n6))),(5,.v (.one x_1)),(4,.v (.one x)),(3,.loc 0 0),(2,.v (.one (.bool b2)))] S [(30,[xL0_0,xL0_1,xL0_2,xL0_3,xL0_4])]))/\True)/\True)/\True)/\True)/\True)/\((((((∃ tok n xs,x=.sl tok n xs/\0<=n7/\n7 < (↑n : Int)/\(∃ x,likeCells [.i 0] [x]=true/\(List.drop 0 (List.drop (n7.toNat * 2) xs))[0]?=some x)/\∀ (n : Int),(List.drop 0 (List.drop
 (n7.toNat * 2) xs))[0]?=some (.i n)->((n == 2)=true->in64 (n6 + 1)/\in64 (n7 + 1)/\K .normal [(7,.v (.one (.i (n7 + 1)))),(6,.v (.one (.i (n6 + 1)))),(5,.v (.one x_1)),(4,.v (.one x)),(3,.loc 0 0),(2,.v (.one (.bool b2)))] S [(30,[xL0_0,xL0_1,xL0_2,xL0_3,xL0_4])])/\((n == 2)=false->in64 (n7 + 1)/\K .normal [(7,.v (.one (.i (n7 + 1)))),(6,.v (.one (.i n6))),(5,.v (.one
 x_1)),(4,.v (.one x)),(3,.loc 0 0),(2,.v (.one (.bool b2)))] S [(30,[xL0_0,xL0_1,xL0_2,xL0_3,xL0_4])]))/\True)/\((∃ tok n xs,x=.sl tok n xs/\0<=n7/\n7 < (↑n : Int)/\(∃ x,likeCells [.i 0] [x]=true/\(List.drop 0 (List.drop (n7.toNat * 2) xs))[0]?=some x)/\∀ (n : Int),(List.drop 0 (List.drop (n7.toNat * 2) xs))[0]?=some (.i n)->((n == 2)=true->in64 (n6 + 1)/\in64 (n7 + 1)/\K
 .normal [(7,.v (.one (.i (n7 + 1)))),(6,.v (.one (.i (n6 + 1)))),(5,.v (.one x_1)),(4,.v (.one x)),(3,.loc 0 0),(2,.v (.one (.bool b2)))] S [(30,[xL0_0,xL0_1,xL0_2,xL0_3,xL0_4])])/\((n == 2)=false->in64 (n7 + 1)/\K .normal [(7,.v (.one (.i (n7 + 1)))),(6,.v (.one (.i n6))),(5,.v (.one x_1)),(4,.v (.one x)),(3,.loc 0 0),(2,.v (.one (.bool b2)))] S
 [(30,[xL0_0,xL0_1,xL0_2,xL0_3,xL0_4])]))/\True)/\True)/\True)/\((((∃ tok n xs,x=.sl tok n xs/\0<=n7/\n7 < (↑n : Int)/\(∃ x,likeCells [.i 0] [x]=true/\(List.drop 0 (List.drop (n7.toNat * 2) xs))[0]?=some x)/\∀ (n : Int),(List.drop 0 (List.drop (n7.toNat * 2) xs))[0]?=some (.i n)->((n == 2)=true->in64 (n6 + 1)/\in64 (n7 + 1)/\K .normal [(7,.v (.one (.i (n7 + 1)))),(6,.v (.one (.i
 (n6 + 1)))),(5,.v (.one x_1)),(4,.v (.one x)),(3,.loc 0 0),(2,.v (.one (.bool b2)))] S [(30,[xL0_0,xL0_1,xL0_2,xL0_3,xL0_4])])/\((n == 2)=false->in64 (n7 + 1)/\K .normal [(7,.v (.one (.i (n7 + 1)))),(6,.v (.one (.i n6))),(5,.v (.one x_1)),(4,.v (.one x)),(3,.loc 0 0),(2,.v (.one (.bool b2)))] S [(30,[xL0_0,xL0_1,xL0_2,xL0_3,xL0_4])]))/\True)/\((∃ tok n xs,x=.sl tok n
 xs/\0<=n7/\n7 < (↑n : Int)/\(∃ x,likeCells [.i 0] [x]=true/\(List.drop 0 (List.drop (n7.toNat * 2) xs))[0]?=some x)/\∀ (n : Int),(List.drop 0 (List.drop (n7.toNat * 2) xs))[0]?=some (.i n)->((n == 2)=true->in64 (n6 + 1)/\in64 (n7 + 1)/\K .normal [(7,.v (.one (.i (n7 + 1)))),(6,.v (.one (.i (n6 + 1)))),(5,.v (.one x_1)),(4,.v (.one x)),(3,.loc 0 0),(2,.v (.one (.bool b2)))] S
 [(30,[xL0_0,xL0_1,xL0_2,xL0_3,xL0_4])])/\((n == 2)=false->in64 (n7 + 1)/\K .normal [(7,.v (.one (.i (n7 + 1)))),(6,.v (.one (.i n6))),(5,.v (.one x_1)),(4,.v (.one x)),(3,.loc 0 0),(2,.v (.one (.bool b2)))] S [(30,[xL0_0,xL0_1,xL0_2,xL0_3,xL0_4])]))/\True)/\True)/\True)/\True)/\True)/\True))/\(decide (n7 < (↑n : Int))=false->K (.exit 0) [(7,.v (.one (.i n7))),(6,.v (.one (.i
 n6))),(5,.v (.one x_1)),(4,.v (.one x)),(3,.loc 0 0),(2,.v (.one (.bool b2)))] S
 [(30,[xL0_0,xL0_1,xL0_2,xL0_3,xL0_4])])
 := by intros; kernel_rfl
theorem x3_0 : ∀ (hk : Hk) (S : St) (Q : AV->St->Prop) (x x_1 : AL) (n7 n6 : Int) (b2 : Bool) (xL0_0 xL0_1 xL0_2 xL0_3 xL0_4 : AL) (S_1 : St),wCode.wEx (Cf.of true) hk Tryz.prog (tabOf Tryz.prog) 136 pl3 1000 (.exit 0) [.blk 0,.seq (codeOf Tryz.prog 3 [1,1,1,1,1,1,1])] (wEnd (tabOf Tryz.prog) Tryz.f3 false S.boxes.length Q) [(7,.v (.one (.i n7))),(6,.v (.one (.i n6))),(5,.v
 (.one x_1)),(4,.v (.one x)),(3,.loc 0 0),(2,.v (.one (.bool b2)))] S_1 [(30,[xL0_0,xL0_1,xL0_2,xL0_3,xL0_4])]=hk.2 136 (codeOf Tryz.prog 3 [1,1,1,1,1,1,1,0,1,0,0]) [.blk 2,.seq (codeOf Tryz.prog 3 [1,1,1,1,1,1,1,1])] (wEnd (tabOf Tryz.prog) Tryz.f3 false S.boxes.length Q) [(8,.v (.one (.i 0))),(7,.v (.one (.i n7))),(6,.v (.one (.i n6))),(5,.v (.one x_1)),(4,.v (.one x)),(3,.loc
 0 0),(2,.v (.one (.bool b2)))] S_1
 [(30,[xL0_0,xL0_1,xL0_2,xL0_3,xL0_4])]
 := by intros; kernel_rfl
theorem b3_1 : ∀ (hk : Hk) (x x_1 : AL) (n6 n8 : Int) (b2 : Bool) (xL0_0 xL0_1 xL0_2 xL0_3 xL0_4 : AL) (S : St) (K : QW),wCode (Cf.of true) hk Tryz.prog (tabOf Tryz.prog) 136 pl3 1000 (codeOf Tryz.prog 3 [1,1,1,1,1,1,1,0,1,0,0]) [] (fun e env S L => K e (restr [8,6,5,4,3,2] env) S L) [(8,.v (.one (.i n8))),(6,.v (.one (.i n6))),(5,.v (.one x_1)),(4,.v (.one x)),(3,.loc 0
 0),(2,.v (.one (.bool b2)))] S [(30,[xL0_0,xL0_1,xL0_2,xL0_3,xL0_4])]=∃ n,x_1.len?=some n/\(decide (n8 < (↑n : Int))=true->∃ tok n xs,x_1=.sl tok n xs/\0<=n8/\n8 < (↑n : Int)/\(∃ x,likeCells [.i 0] [x]=true/\(List.drop 0 (List.drop (n8.toNat * 2) xs))[0]?=some x)/\∀ (n : Int),(List.drop 0 (List.drop (n8.toNat * 2) xs))[0]?=some (.i n)->((n == 1)=true->K .ret [(8,.v (.one (.i
 n8))),(6,.v (.one (.i n6))),(5,.v (.one x_1)),(4,.v (.one x)),(3,.loc 0 0),(2,.v (.one (.bool false)))] S [(30,[xL0_0,xL0_1,xL0_2,xL0_3,xL0_4])])/\((n == 1)=false->in64 (n8 + 1)/\K .normal [(8,.v (.one (.i (n8 + 1)))),(6,.v (.one (.i n6))),(5,.v (.one x_1)),(4,.v (.one x)),(3,.loc 0 0),(2,.v (.one (.bool b2)))] S [(30,[xL0_0,xL0_1,xL0_2,xL0_3,xL0_4])]))/\(decide (n8 < (↑n :
 Int))=false->K (.exit 2) [(8,.v (.one (.i n8))),(6,.v (.one (.i n6))),(5,.v (.one x_1)),(4,.v (.one x)),(3,.loc 0 0),(2,.v (.one (.bool b2)))] S
 [(30,[xL0_0,xL0_1,xL0_2,xL0_3,xL0_4])])
 := by intros; kernel_rfl
theorem x3_1 : ∀ (hk : Hk) (S : St) (Q : AV->St->Prop) (x x_1 : AL) (n6 n8 : Int) (b2 : Bool) (xL0_0 xL0_1 xL0_2 xL0_3 xL0_4 : AL) (S_1 : St),wCode.wEx (Cf.of true) hk Tryz.prog (tabOf Tryz.prog) 136 pl3 1000 (.exit 2) [.blk 2,.seq (codeOf Tryz.prog 3 [1,1,1,1,1,1,1,1])] (wEnd (tabOf Tryz.prog) Tryz.f3 false S.boxes.length Q) [(8,.v (.one (.i n8))),(6,.v (.one (.i n6))),(5,.v
 (.one x_1)),(4,.v (.one x)),(3,.loc 0 0),(2,.v (.one (.bool b2)))] S_1 [(30,[xL0_0,xL0_1,xL0_2,xL0_3,xL0_4])]=∃ R,hk.1 8 [.agg [xL0_0,xL0_1,xL0_2,xL0_3,xL0_4]] S_1 [(30,[xL0_0,xL0_1,xL0_2,xL0_3,xL0_4])] R/\∀ (x_2 : AL) (S1 : St),R (.one x_2) S1->∃ R,hk.1 9 [.one x_2,.one (.str k3)] S1 [(30,[xL0_0,xL0_1,xL0_2,xL0_3,xL0_4])] R/\∀ (b : Bool) (S1 : St),R (.one (.bool b))
 S1->(b=true->in64 (n6 + 1)/\∃ R,hk.1 10 [.one x] S1 [(30,[xL0_0,xL0_1,xL0_2,xL0_3,xL0_4])] R/\∀ (s : ByteArray) (S1 : St),R (.one (.str s)) S1->hk.2 136 (codeOf Tryz.prog 3 [1,1,1,1,1,1,1,1,1,1,1,1,0,1,0,0]) [.blk 4,.seq (codeOf Tryz.prog 3 [1,1,1,1,1,1,1,1,1,1,1,1,1])] (wEnd (tabOf Tryz.prog) Tryz.f3 false S.boxes.length Q) [(12,.v (.one (.i 0))),(11,.v (.one (.i 0))),(10,.v
 (.one (.str s))),(99,.v (.one (.str s))),(98,.v (.one x)),(6,.v (.one (.i (n6 + 1)))),(97,.v (.one (.i (n6 + 1)))),(96,.v (.one (.i n6))),(95,.v (.one (.bool b))),(94,.v (.one x_2)),(9,.v (.one x_2)),(93,.v (.one x_2)),(92,.v (.agg [xL0_0,xL0_1,xL0_2,xL0_3,xL0_4])),(8,.v (.one (.i n8))),(5,.v (.one x_1)),(4,.v (.one x)),(3,.loc 0 0),(2,.v (.one (.bool b2)))] S1
 [(30,[xL0_0,xL0_1,xL0_2,xL0_3,xL0_4])])/\(b=false->∃ R,hk.1 10 [.one x] S1 [(30,[xL0_0,xL0_1,xL0_2,xL0_3,xL0_4])] R/\∀ (s : ByteArray) (S1 : St),R (.one (.str s)) S1->hk.2 136 (codeOf Tryz.prog 3 [1,1,1,1,1,1,1,1,1,1,1,1,0,1,0,0]) [.blk 4,.seq (codeOf Tryz.prog 3 [1,1,1,1,1,1,1,1,1,1,1,1,1])] (wEnd (tabOf Tryz.prog) Tryz.f3 false S.boxes.length Q) [(12,.v (.one (.i 0))),(11,.v
 (.one (.i 0))),(10,.v (.one (.str s))),(99,.v (.one (.str s))),(98,.v (.one x)),(95,.v (.one (.bool b))),(94,.v (.one x_2)),(9,.v (.one x_2)),(93,.v (.one x_2)),(92,.v (.agg [xL0_0,xL0_1,xL0_2,xL0_3,xL0_4])),(8,.v (.one (.i n8))),(6,.v (.one (.i n6))),(5,.v (.one x_1)),(4,.v (.one x)),(3,.loc 0 0),(2,.v (.one (.bool b2)))] S1
 [(30,[xL0_0,xL0_1,xL0_2,xL0_3,xL0_4])])
 := by intros; kernel_rfl
theorem b3_2 : ∀ (hk : Hk) (x : AL) (n6 : Int) (b2 : Bool) (x_1 : AL) (s : ByteArray) (n12 n11 : Int) (xL0_0 xL0_1 xL0_2 xL0_3 xL0_4 : AL) (S : St) (K : QW),wCode (Cf.of true) hk Tryz.prog (tabOf Tryz.prog) 136 pl3 1000 (codeOf Tryz.prog 3 [1,1,1,1,1,1,1,1,1,1,1,1,0,1,0,0]) [] (fun e env S L => K e (restr [12,11,10,6,9,4,3,2] env) S L) [(12,.v (.one (.i n12))),(11,.v (.one (.i
 n11))),(10,.v (.one (.str s))),(6,.v (.one (.i (n6 + 1)))),(9,.v (.one x_1)),(4,.v (.one x)),(3,.loc 0 0),(2,.v (.one (.bool b2)))] S [(30,[xL0_0,xL0_1,xL0_2,xL0_3,xL0_4])]=((decide (n12 < (↑s.size : Int))=true->0<=n12/\n12 < (↑s.size : Int)/\((byteAt s n12 == 10)=true->in64 (n11 + 1)/\in64 (n12 + 1)/\K .normal [(12,.v (.one (.i (n12 + 1)))),(11,.v (.one (.i (n11 + 1)))),(10,.v
 (.one (.str s))),(6,.v (.one (.i (n6 + 1)))),(9,.v (.one x_1)),(4,.v (.one x)),(3,.loc 0 0),(2,.v (.one (.bool b2)))] S [(30,[xL0_0,xL0_1,xL0_2,xL0_3,xL0_4])])/\((byteAt s n12 == 10)=false->in64 (n12 + 1)/\K .normal [(12,.v (.one (.i (n12 + 1)))),(11,.v (.one (.i n11))),(10,.v (.one (.str s))),(6,.v (.one (.i (n6 + 1)))),(9,.v (.one x_1)),(4,.v (.one x)),(3,.loc 0 0),(2,.v
 (.one (.bool b2)))] S [(30,[xL0_0,xL0_1,xL0_2,xL0_3,xL0_4])]))/\(decide (n12 < (↑s.size : Int))=false->K (.exit 4) [(12,.v (.one (.i n12))),(11,.v (.one (.i n11))),(10,.v (.one (.str s))),(6,.v (.one (.i (n6 + 1)))),(9,.v (.one x_1)),(4,.v (.one x)),(3,.loc 0 0),(2,.v (.one (.bool b2)))] S
 [(30,[xL0_0,xL0_1,xL0_2,xL0_3,xL0_4])]))
 := by intros; kernel_rfl
theorem x3_2 : ∀ (hk : Hk) (S : St) (Q : AV->St->Prop) (x : AL) (n6 : Int) (b2 : Bool) (x_1 : AL) (s : ByteArray) (n12 n11 : Int) (xL0_0 xL0_1 xL0_2 xL0_3 xL0_4 : AL) (S_1 : St),wCode.wEx (Cf.of true) hk Tryz.prog (tabOf Tryz.prog) 136 pl3 1000 (.exit 4) [.blk 4,.seq (codeOf Tryz.prog 3 [1,1,1,1,1,1,1,1,1,1,1,1,1])] (wEnd (tabOf Tryz.prog) Tryz.f3 false S.boxes.length Q)
 [(12,.v (.one (.i n12))),(11,.v (.one (.i n11))),(10,.v (.one (.str s))),(6,.v (.one (.i (n6 + 1)))),(9,.v (.one x_1)),(4,.v (.one x)),(3,.loc 0 0),(2,.v (.one (.bool b2)))] S_1 [(30,[xL0_0,xL0_1,xL0_2,xL0_3,xL0_4])]=∃ n,x_1.len?=some n/\((n6 + 1 == (↑n : Int))=true->∃ n,x.len?=some n/\((n11 == (↑n : Int))=true->∃ n,x.len?=some n/\∃ R,hk.1 12 [.agg
 [xL0_0,xL0_1,xL0_2,xL0_3,xL0_4]] S_1 [(30,[xL0_0,xL0_1,xL0_2,xL0_3,xL0_4])] R/\∀ (x : AL) (S1 : St),R (.one x) S1->∃ n_1,x.len?=some n_1/\true=true/\Q (.one (.bool ((↑n : Int) == (↑n_1 : Int)))) S1)/\((n11 == (↑n : Int))=false->∃ R,hk.1 11 [.one x] S_1 [(30,[xL0_0,xL0_1,xL0_2,xL0_3,xL0_4])] R/\∀ (s_1 : ByteArray) (S1 : St),R (.one (.str s_1)) S1->(decide (s=s_1)=true->∃
 n,x.len?=some n/\∃ R,hk.1 12 [.agg [xL0_0,xL0_1,xL0_2,xL0_3,xL0_4]] S1 [(30,[xL0_0,xL0_1,xL0_2,xL0_3,xL0_4])] R/\∀ (x : AL) (S1 : St),R (.one x) S1->∃ n_1,x.len?=some n_1/\true=true/\Q (.one (.bool ((↑n : Int) == (↑n_1 : Int)))) S1)/\(decide (s=s_1)=false->true=true/\Q (.one (.bool false)) S1)))/\((n6 + 1 == (↑n : Int))=false->true=true/\Q (.one (.bool false))
 S_1)
 := by intros; kernel_rfl
theorem b3_3 : ∀ (hk : Hk) (x : AL) (n6 : Int) (b2 : Bool) (x_1 : AL) (s : ByteArray) (n12 n11 : Int) (xL0_0 xL0_1 xL0_2 xL0_3 xL0_4 : AL) (S : St) (K : QW),wCode (Cf.of true) hk Tryz.prog (tabOf Tryz.prog) 136 pl3 1000 (codeOf Tryz.prog 3 [1,1,1,1,1,1,1,1,1,1,1,1,0,1,0,0]) [] (fun e env S L => K e (restr [12,11,10,9,6,4,3,2] env) S L) [(12,.v (.one (.i n12))),(11,.v (.one (.i
 n11))),(10,.v (.one (.str s))),(9,.v (.one x_1)),(6,.v (.one (.i n6))),(4,.v (.one x)),(3,.loc 0 0),(2,.v (.one (.bool b2)))] S [(30,[xL0_0,xL0_1,xL0_2,xL0_3,xL0_4])]=((decide (n12 < (↑s.size : Int))=true->0<=n12/\n12 < (↑s.size : Int)/\((byteAt s n12 == 10)=true->in64 (n11 + 1)/\in64 (n12 + 1)/\K .normal [(12,.v (.one (.i (n12 + 1)))),(11,.v (.one (.i (n11 + 1)))),(10,.v (.one
 (.str s))),(9,.v (.one x_1)),(6,.v (.one (.i n6))),(4,.v (.one x)),(3,.loc 0 0),(2,.v (.one (.bool b2)))] S [(30,[xL0_0,xL0_1,xL0_2,xL0_3,xL0_4])])/\((byteAt s n12 == 10)=false->in64 (n12 + 1)/\K .normal [(12,.v (.one (.i (n12 + 1)))),(11,.v (.one (.i n11))),(10,.v (.one (.str s))),(9,.v (.one x_1)),(6,.v (.one (.i n6))),(4,.v (.one x)),(3,.loc 0 0),(2,.v (.one (.bool b2)))] S
 [(30,[xL0_0,xL0_1,xL0_2,xL0_3,xL0_4])]))/\(decide (n12 < (↑s.size : Int))=false->K (.exit 4) [(12,.v (.one (.i n12))),(11,.v (.one (.i n11))),(10,.v (.one (.str s))),(9,.v (.one x_1)),(6,.v (.one (.i n6))),(4,.v (.one x)),(3,.loc 0 0),(2,.v (.one (.bool b2)))] S
 [(30,[xL0_0,xL0_1,xL0_2,xL0_3,xL0_4])]))
 := by intros; kernel_rfl
theorem x3_3 : ∀ (hk : Hk) (S : St) (Q : AV->St->Prop) (x : AL) (n6 : Int) (b2 : Bool) (x_1 : AL) (s : ByteArray) (n12 n11 : Int) (xL0_0 xL0_1 xL0_2 xL0_3 xL0_4 : AL) (S_1 : St),wCode.wEx (Cf.of true) hk Tryz.prog (tabOf Tryz.prog) 136 pl3 1000 (.exit 4) [.blk 4,.seq (codeOf Tryz.prog 3 [1,1,1,1,1,1,1,1,1,1,1,1,1])] (wEnd (tabOf Tryz.prog) Tryz.f3 false S.boxes.length Q)
 [(12,.v (.one (.i n12))),(11,.v (.one (.i n11))),(10,.v (.one (.str s))),(9,.v (.one x_1)),(6,.v (.one (.i n6))),(4,.v (.one x)),(3,.loc 0 0),(2,.v (.one (.bool b2)))] S_1 [(30,[xL0_0,xL0_1,xL0_2,xL0_3,xL0_4])]=∃ n,x_1.len?=some n/\((n6 == (↑n : Int))=true->∃ n,x.len?=some n/\((n11 == (↑n : Int))=true->∃ n,x.len?=some n/\∃ R,hk.1 12 [.agg [xL0_0,xL0_1,xL0_2,xL0_3,xL0_4]] S_1
 [(30,[xL0_0,xL0_1,xL0_2,xL0_3,xL0_4])] R/\∀ (x : AL) (S1 : St),R (.one x) S1->∃ n_1,x.len?=some n_1/\true=true/\Q (.one (.bool ((↑n : Int) == (↑n_1 : Int)))) S1)/\((n11 == (↑n : Int))=false->∃ R,hk.1 11 [.one x] S_1 [(30,[xL0_0,xL0_1,xL0_2,xL0_3,xL0_4])] R/\∀ (s_1 : ByteArray) (S1 : St),R (.one (.str s_1)) S1->(decide (s=s_1)=true->∃ n,x.len?=some n/\∃ R,hk.1 12 [.agg
 [xL0_0,xL0_1,xL0_2,xL0_3,xL0_4]] S1 [(30,[xL0_0,xL0_1,xL0_2,xL0_3,xL0_4])] R/\∀ (x : AL) (S1 : St),R (.one x) S1->∃ n_1,x.len?=some n_1/\true=true/\Q (.one (.bool ((↑n : Int) == (↑n_1 : Int)))) S1)/\(decide (s=s_1)=false->true=true/\Q (.one (.bool false)) S1)))/\((n6 == (↑n : Int))=false->true=true/\Q (.one (.bool false))
 S_1)
 := by intros; kernel_rfl
end Go.Proofs.YtkdickfiifpblaaGreatDoor.D
namespace Go.Proofs.YtkdickfiifpblaaGreatDoor.D
open Go Go.Den Go.Proofs
set_option maxRecDepth 100000
variable {w0 : World}
theorem lint_ok {m : Md} (h : MV m) (g : Gd m) : NtsOk (lintP m) := by
  have c0 := h.ci
  have c1 := h.cx
  have c2 := h.cs
  have hp : ∀ x, x ∈ plainU m → x.size ≤ 1000000 := fun x hx => by
    unfold plainU at hx
    rcases List.mem_append.1 hx with hx | hx
    · obtain ⟨a, h1, _, rfl⟩ := fm_mem.1 hx; exact g.bx a h1
    · obtain ⟨a, h1, _, rfl⟩ := fm_mem.1 hx; exact g.bs a h1
  have hst : ∀ (p : Sm → Bool) x, x ∈ setOf (fm p Sm.name m.stmts) → x.size ≤ 1000000 := fun p x hx => by
    obtain ⟨a, h1, _, rfl⟩ := fm_mem.1 (((setOf_is _).mem x).1 hx)
    exact g.bs a h1
  have hpl := plainU_len m
  have hfp : (freeP m).length ≤ (plainU m).length := List.length_filter_le _ _
  have hsf := setOf_len (freeP m)
  have hfl : (freeLP m).length ≤ (setOf (freeP m)).length := List.length_filter_le _ _
  have hun : (unused m).length ≤ m.imps.length := fm_len _ _ _
  have hsn := setOf_len (unused m)
  have hw : (wrP m).length ≤ m.stmts.length := fm_len _ _ _
  have hv : (nvP m).length ≤ m.stmts.length := fm_len _ _ _
  have hsw := setOf_len (wrP m)
  have hsv := setOf_len (nvP m)
  have hnl : ∀ (k : Int) (l : List BA), (nts k l).length = l.length := fun k l => by rw [nts, List.length_map]
  have mem : ∀ n, n ∈ lintP m → n ∈ nts 1 (setOf (unused m)) ∨ n ∈ nts 2 (freeLP m) ∨ n ∈ nts 3 (setOf (wrP m)) ∨ n ∈ nts 4 (setOf (nvP m)) := fun n hn => by
    unfold lintP at hn
    simpa only [List.append_nil, List.mem_append] using hn
  refine ⟨fun n hn => ?_, fun n hn => ?_, ?_⟩
  · rcases mem n hn with h | h | h | h <;> rw [(nts_k h).1] <;> omega
  · rcases mem n hn with h | h | h | h
    · obtain ⟨a, h1, _, h2⟩ := fm_mem.1 (((setOf_is _).mem _).1 (nts_k h).2)
      rw [← h2]
      exact g.bi a h1
    · have h1 := (nts_k h).2
      unfold freeLP at h1
      have h2 := ((setOf_is _).mem _).1 (List.mem_filter.1 h1).1
      unfold freeP at h2
      exact hp _ (List.mem_filter.1 h2).1
    · exact hst _ _ (nts_k h).2
    · exact hst _ _ (nts_k h).2
  · unfold lintP
    simp only [List.length_append, List.length_nil, hnl]
    omega
def iA (m : Md) (xl xk : AL) : Nat → KE := fun mm env _ L => L = mL m ∧ ∃ i : Nat, env = [(7, .v (int i)), (6, .v (int (cnt2 ((lintP m).take i)))), (5, .v (.one xk)), (4, .v (.one xl)), (3, .loc 0 0), (2, .v (bool false))] ∧ i ≤ (lintP m).length ∧ mm = (lintP m).length - i
theorem big_c {x : AL} {n : Nat} (h : x.len? = some n) : CON w0 4 [.one x] (fun v => v = bool (decide ((n : Int) > 1048576))) := by
  refine Con.of_fn (plans := np) hT hmo (nov := true) (fun v hv => ⟨Tryz.f4, [v], by kernel_rfl, rfl, by subst hv; kernel_rfl⟩) (fun S => ?_)
  rw [v4]
  exact ⟨rfl, n, h, rfl, Ext.refl S, rfl⟩
theorem rdOne {r : Option AL} {a : Int} (h : r = some (.int .i64 a)) {H : Int → Prop} (hH : H a) : (∃ x, likeCells [.int .i64 0] [x] = true ∧ r = some x) ∧ ∀ n : Int, r = some (.int .i64 n) → H n := by
  refine ⟨⟨_, rfl, h⟩, fun n hn => ?_⟩
  rw [h] at hn
  cases hn
  exact hH
theorem rdTwo {r : Option AL} {s : BA} (h : r = some (.str s)) {H : BA → Prop} (hH : H s) : (∃ x, likeCells [.str ⟨⟨[]⟩⟩] [x] = true ∧ r = some x) ∧ ∀ n : BA, r = some (.str n) → H n := by
  refine ⟨⟨_, rfl, h⟩, fun n hn => ?_⟩
  rw [h] at hn
  cases hn
  exact hH
theorem round0 {m : Md} {tok : Option Nat} {xk : AL} {i c : Nat} (hlen : (lintP m).length ≤ 100000) (hc : c ≤ (lintP m).length) {S : St} {K : QW}
    (y1 : ∀ b, (lintP m)[i]? = some b → (b.k == 2) = true → K .normal [(7, .v (int ((i : Int) + 1))), (6, .v (int ((c : Int) + 1))), (5, .v (.one xk)), (4, .v (.one (.sl tok (lintP m).length ((lintP m).flatMap Nt.cells)))), (3, .loc 0 0), (2, .v (bool false))] S [(30, m.cs)])
    (y2 : ∀ b, (lintP m)[i]? = some b → (b.k == 2) = false → K .normal [(7, .v (int ((i : Int) + 1))), (6, .v (int (c : Int))), (5, .v (.one xk)), (4, .v (.one (.sl tok (lintP m).length ((lintP m).flatMap Nt.cells)))), (3, .loc 0 0), (2, .v (bool false))] S [(30, m.cs)])
    (y3 : ¬ i < (lintP m).length → K (.exit 0) [(7, .v (int (i : Int))), (6, .v (int (c : Int))), (5, .v (.one xk)), (4, .v (.one (.sl tok (lintP m).length ((lintP m).flatMap Nt.cells)))), (3, .loc 0 0), (2, .v (bool false))] S [(30, m.cs)]) :
    wCode (Cf.of true) (realHk Tryz.prog w0 (tabOf Tryz.prog)) Tryz.prog (tabOf Tryz.prog) 136 pl3 1000 (codeOf Tryz.prog 3 [1, 1, 1, 1, 1, 1, 0, 1, 0, 0]) [] (fun e env S L => K e (restr [7, 6, 5, 4, 3, 2] env) S L)
      [(7, .v (int (i : Int))), (6, .v (int (c : Int))), (5, .v (.one xk)), (4, .v (.one (.sl tok (lintP m).length ((lintP m).flatMap Nt.cells)))), (3, .loc 0 0), (2, .v (bool false))] S [(30, m.cs)] := by
  rw [b3_0]
  refine ⟨_, rfl, fun hlt => ?_, fun hge => y3 (ge_of_dec hge)⟩
  have hlt := lt_of_dec hlt
  obtain ⟨b, hb⟩ : ∃ b, (lintP m)[i]? = some b := ⟨_, List.getElem?_eq_getElem hlt⟩
  have y1 := y1 b hb
  have y2 := y2 b hb
  have rk : ∀ {j : Nat} {a : Nt}, (lintP m)[j]? = some a → (List.drop 0 (List.drop (((j : Nat) : Int).toNat * 2) ((lintP m).flatMap Nt.cells)))[0]? = some (.int .i64 a.k) := fun ha => flat_get Nt.cells 2 Nt_len _ _ 0 _ ha (by decide)
  have rs : ∀ {j : Nat} {a : Nt}, (lintP m)[j]? = some a → (List.drop 1 (List.drop (((j : Nat) : Int).toNat * 2) ((lintP m).flatMap Nt.cells)))[0]? = some (.str a.name) := fun ha => flat_get Nt.cells 2 Nt_len _ _ 1 _ ha (by decide)
  have kb := rk hb
  have sb := rs hb
  refine ⟨rfl, fun hpos => ?_, fun _ => ?_⟩
  · have hpos : 0 < i := by have := of_decide_eq_true hpos; omega
    obtain ⟨a, ha⟩ : ∃ a, (lintP m)[i - 1]? = some a := ⟨_, List.getElem?_eq_getElem (by omega)⟩
    have hab := lintP_next hpos ha hb
    have ka := rk ha
    have sa := rs ha
    have ei : ((i : Int) - 1) = ((i - 1 : Nat) : Int) := by omega
    rw [ei]
    have h1 : decide (a.k > b.k) = false := decide_eq_false (by rcases hab with h2 | ⟨h2, _⟩ <;> omega)
    have z1 : in64 ((i - 1 : Nat) : Int) := by unfold in64; omega
    simp only [and_true, and_self, true_and]
    have leaf : ∃ tok_1 n xs, AL.sl tok (lintP m).length ((lintP m).flatMap Nt.cells) = .sl tok_1 n xs ∧ 0 ≤ (i : Int) ∧ (i : Int) < (n : Int) ∧ (∃ x, likeCells [.int .i64 0] [x] = true ∧ (List.drop 0 (List.drop ((i : Int).toNat * 2) xs))[0]? = some x) ∧ ∀ (n : Int), (List.drop 0 (List.drop ((i : Int).toNat * 2) xs))[0]? = some (.int .i64 n) →
        ((n == 2) = true → in64 ((c : Int) + 1) ∧ in64 ((i : Int) + 1) ∧ K .normal [(7, .v (int ((i : Int) + 1))), (6, .v (int ((c : Int) + 1))), (5, .v (.one xk)), (4, .v (.one (.sl tok (lintP m).length ((lintP m).flatMap Nt.cells)))), (3, .loc 0 0), (2, .v (bool false))] S [(30, m.cs)]) ∧
        ((n == 2) = false → in64 ((i : Int) + 1) ∧ K .normal [(7, .v (int ((i : Int) + 1))), (6, .v (int (c : Int))), (5, .v (.one xk)), (4, .v (.one (.sl tok (lintP m).length ((lintP m).flatMap Nt.cells)))), (3, .loc 0 0), (2, .v (bool false))] S [(30, m.cs)]) :=
      ⟨_, _, _, rfl, by omega, by omega, rdOne kb ⟨fun h => ⟨by unfold in64; omega, by unfold in64; omega, y1 h⟩, fun h => ⟨by unfold in64; omega, y2 h⟩⟩⟩
    have q1 : (0 : Int) ≤ ((i - 1 : Nat) : Int) := by omega
    have q2 : ((i - 1 : Nat) : Int) < ((lintP m).length : Int) := by omega
    have q3 : (0 : Int) ≤ (i : Int) := by omega
    have q4 : (i : Int) < ((lintP m).length : Int) := by omega
    rcases hab with hab | ⟨hab, hbl⟩
    · have h2 : (a.k == b.k) = false := by
        apply Bool.eq_false_iff.2
        intro h
        have := eq_of_beq h
        omega
      have no2 : (a.k == b.k) = true → False := fun h => by rw [h2] at h; cases h
      have no1 : decide (a.k > b.k) = true → False := fun h => by rw [h1] at h; cases h
      refine ⟨z1, _, _, _, rfl, q1, q2, _, _, _, rfl, q3, q4, ?_, ?_⟩
      · refine rdOne ka (rdOne kb ⟨fun h => (no1 h).elim, fun _ => ⟨z1, _, _, _, rfl, q1, q2, _, _, _, rfl, q3, q4, ?_, ?_⟩⟩)
        · exact rdOne ka (rdOne kb ⟨fun h => (no2 h).elim, fun _ => leaf⟩)
        · exact rdOne kb (rdOne ka ⟨fun h => (no2 h).elim, fun _ => leaf⟩)
      · refine rdOne kb (rdOne ka ⟨fun h => (no1 h).elim, fun _ => ⟨z1, _, _, _, rfl, q1, q2, _, _, _, rfl, q3, q4, ?_, ?_⟩⟩)
        · exact rdOne ka (rdOne kb ⟨fun h => (no2 h).elim, fun _ => leaf⟩)
        · exact rdOne kb (rdOne ka ⟨fun h => (no2 h).elim, fun _ => leaf⟩)
    · have no1 : decide (a.k > b.k) = true → False := fun h => by rw [h1] at h; cases h
      have h2 : (a.k == b.k) = true := by rw [hab]; exact beq_self_eq_true _
      have yes2 : (a.k == b.k) = false → False := fun h => by rw [h2] at h; cases h
      have no3 : (!Op.bytesLess a.name.toList b.name.toList) = true → False := fun h => by
        have h4 : Op.bytesLess a.name.toList b.name.toList = true := hbl
        rw [h4] at h
        cases h
      refine ⟨z1, _, _, _, rfl, q1, q2, _, _, _, rfl, q3, q4, ?_, ?_⟩
      · refine rdOne ka (rdOne kb ⟨fun h => (no1 h).elim, fun _ => ⟨z1, _, _, _, rfl, q1, q2, _, _, _, rfl, q3, q4, ?_, ?_⟩⟩)
        · refine rdOne ka (rdOne kb ⟨fun _ => ⟨z1, _, _, _, rfl, q1, q2, _, _, _, rfl, q3, q4, ?_, ?_⟩, fun h => (yes2 h).elim⟩)
          · exact rdTwo sa (rdTwo sb ⟨fun h => (no3 h).elim, fun _ => leaf⟩)
          · exact rdTwo sb (rdTwo sa ⟨fun h => (no3 h).elim, fun _ => leaf⟩)
        · refine rdOne kb (rdOne ka ⟨fun _ => ⟨z1, _, _, _, rfl, q1, q2, _, _, _, rfl, q3, q4, ?_, ?_⟩, fun h => (yes2 h).elim⟩)
          · exact rdTwo sa (rdTwo sb ⟨fun h => (no3 h).elim, fun _ => leaf⟩)
          · exact rdTwo sb (rdTwo sa ⟨fun h => (no3 h).elim, fun _ => leaf⟩)
      · refine rdOne kb (rdOne ka ⟨fun h => (no1 h).elim, fun _ => ⟨z1, _, _, _, rfl, q1, q2, _, _, _, rfl, q3, q4, ?_, ?_⟩⟩)
        · refine rdOne ka (rdOne kb ⟨fun _ => ⟨z1, _, _, _, rfl, q1, q2, _, _, _, rfl, q3, q4, ?_, ?_⟩, fun h => (yes2 h).elim⟩)
          · exact rdTwo sa (rdTwo sb ⟨fun h => (no3 h).elim, fun _ => leaf⟩)
          · exact rdTwo sb (rdTwo sa ⟨fun h => (no3 h).elim, fun _ => leaf⟩)
        · refine rdOne kb (rdOne ka ⟨fun _ => ⟨z1, _, _, _, rfl, q1, q2, _, _, _, rfl, q3, q4, ?_, ?_⟩, fun h => (yes2 h).elim⟩)
          · exact rdTwo sa (rdTwo sb ⟨fun h => (no3 h).elim, fun _ => leaf⟩)
          · exact rdTwo sb (rdTwo sa ⟨fun h => (no3 h).elim, fun _ => leaf⟩)
  · simp only [and_true, and_self, true_and]
    exact ⟨_, _, _, rfl, by omega, by omega, rdOne kb ⟨fun h => ⟨by unfold in64; omega, by unfold in64; omega, y1 h⟩, fun h => ⟨by unfold in64; omega, y2 h⟩⟩⟩
end Go.Proofs.YtkdickfiifpblaaGreatDoor.D
namespace Go.Proofs.YtkdickfiifpblaaGreatDoor.D
open Go Go.Den Go.Proofs
set_option maxRecDepth 100000
variable {w0 : World}
def iB (m : Md) (xl xk : AL) (c n : Nat) : Nat → KE := fun mm env _ L => L = mL m ∧ ∃ i : Nat, env = [(8, .v (int i)), (6, .v (int (c : Int))), (5, .v (.one xk)), (4, .v (.one xl)), (3, .loc 0 0), (2, .v (bool false))] ∧ i ≤ n ∧ mm = n - i
def iC1 (m : Md) (xl xf : AL) (c : Nat) (s : BA) : Nat → KE := fun mm env _ L => L = mL m ∧ ∃ i q : Nat, env = [(12, .v (int i)), (11, .v (int q)), (10, .v (str s)), (6, .v (int ((c : Int) + 1))), (9, .v (.one xf)), (4, .v (.one xl)), (3, .loc 0 0), (2, .v (bool false))] ∧ i ≤ s.size ∧ q ≤ i ∧ mm = s.size - i
def iC2 (m : Md) (xl xf : AL) (c : Nat) (s : BA) : Nat → KE := fun mm env _ L => L = mL m ∧ ∃ i q : Nat, env = [(12, .v (int i)), (11, .v (int q)), (10, .v (str s)), (9, .v (.one xf)), (6, .v (int (c : Int))), (4, .v (.one xl)), (3, .loc 0 0), (2, .v (bool false))] ∧ i ≤ s.size ∧ q ≤ i ∧ mm = s.size - i
theorem ending {m : Md} (hmt : MT m) (g : Gd m) {xl : AL} (hl : Vw Nt.cells xl (lintP m)) {S : St} (q : Int) :
    ∃ n, xl.len? = some n ∧ ((q == (n : Int)) = true → ∃ n, xl.len? = some n ∧ ∃ R, (realHk Tryz.prog w0 (tabOf Tryz.prog)).1 12 [m.av] S [(30, m.cs)] R ∧ ∀ (x : AL) (S1 : St), R (.one x) S1 → ∃ n_1, x.len? = some n_1 ∧ true = true ∧ bool ((n : Int) == (n_1 : Int)) = bool true) ∧
      ((q == (n : Int)) = false → ∃ R, (realHk Tryz.prog w0 (tabOf Tryz.prog)).1 11 [.one xl] S [(30, m.cs)] R ∧ ∀ (s_1 : BA) (S1 : St), R (str s_1) S1 →
        (decide (showN (lintP m) = s_1) = true → ∃ n, xl.len? = some n ∧ ∃ R, (realHk Tryz.prog w0 (tabOf Tryz.prog)).1 12 [m.av] S1 [(30, m.cs)] R ∧ ∀ (x : AL) (S1 : St), R (.one x) S1 → ∃ n_1, x.len? = some n_1 ∧ true = true ∧ bool ((n : Int) == (n_1 : Int)) = bool true) ∧
        (decide (showN (lintP m) = s_1) = false → true = true ∧ bool false = bool true)) := by
  have hm := hmt.mv
  have hok := lint_ok hm g
  have last : ∀ S' : St, ∃ n, xl.len? = some n ∧ ∃ R, (realHk Tryz.prog w0 (tabOf Tryz.prog)).1 12 [m.av] S' [(30, m.cs)] R ∧ ∀ (x : AL) (S1 : St), R (.one x) S1 → ∃ n_1, x.len? = some n_1 ∧ true = true ∧ bool ((n : Int) == (n_1 : Int)) = bool true := fun S' => by
    refine ⟨_, hl.len, _, (Lint_c hm).use S' _ trivial, fun x S1 hR => ?_⟩
    obtain ⟨_, r, he, hr⟩ := hR
    cases he
    refine ⟨_, hr.vw.len, rfl, ?_⟩
    rw [lint_eq g, beq_self_eq_true]
  refine ⟨_, hl.len, fun _ => last S, fun _ => ⟨_, (ShowNotes_c hl hok).use S _, fun s S1 hR => ?_⟩⟩
  obtain ⟨_, he⟩ := hR
  cases he
  exact ⟨fun _ => last S1, fun h => absurd rfl (of_decide_eq_false h)⟩
theorem FnLint_t {x : AL} {n : Nat} (hn : x.len? = some n) (hx : n ≤ 1048576 → Src x) (S : St) : Tot Tryz.prog w0 3 [.one x] S fun v _ => v = bool true := by
  refine Tot.of_wFnK hT rfl hmo (nov := true) (plans := pl3) (keep := false) ?_
  rw [v3]
  refine ⟨rfl, _, (big_c hn).use S _, fun b S1 hR => ?_⟩
  obtain ⟨hE1, he⟩ := hR
  cases he
  refine ⟨fun _ => ⟨rfl, rfl⟩, fun hb => ?_⟩
  have hb := of_decide_eq_false hb
  have hx := hx (by omega)
  refine ⟨_, (DrawLint_c x hx).use S1 _, fun y0 y1 y2 y3 y4 S2 hR => ?_⟩
  obtain ⟨_, m, he, hmt, g⟩ := hR
  cases he
  have hm := hmt.mv
  refine ⟨_, (Lint2_c hmt).use S2 _, fun xl S3 hR => ?_⟩
  obtain ⟨_, rl, he, hrl, _⟩ := hR
  cases he
  have hl : Vw Nt.cells xl (lintP m) := hrl.vw
  refine ⟨_, (Trim_c hmt).use S3 _, fun q0 q1 q2 q3 q4 S4 hR => ?_⟩
  obtain ⟨_, z0, z1, z2, z3, z4, he, htm⟩ := hR
  cases he
  refine ⟨_, (Lint2_c htm).use S4 _, fun xk S5 hR => ?_⟩
  obtain ⟨_, rk, he, hrk, _⟩ := hR
  cases he
  have hk := hrk.vw
  have hno := fun a => trim_kind m z0 z1 z2 z3 z4 (a := a)
  have hkl : (lintP (trimM m z0 z1 z2 z3 z4)).length ≤ 100000 := by
    have g2 : Gd (trimM m z0 z1 z2 z3 z4) := ⟨g.good, fun y hy => g.bi y (List.mem_filter.1 hy).1, g.bs, g.bx⟩
    exact (lint_ok htm.mv g2).len
  generalize lintP (trimM m z0 z1 z2 z3 z4) = lk at hk hno hkl
  have hok := lint_ok hm g
  have hlen := hok.len
  have hsz := showN_size hok (lintP m).length (Nat.le_refl _)
  rw [List.take_length] at hsz
  have hsz2 : (lintP m).length * 1000010 ≤ 100000 * 1000010 := Nat.mul_le_mul_right _ hlen
  refine ⟨[7, 6, 5, 4, 3, 2], iA m xl xk, (lintP m).length, ⟨rfl, 0, rfl, Nat.zero_le _, rfl⟩, ?_⟩
  rintro mm env S6 L6 ⟨rfl, i, rfl, hi, rfl⟩
  refine WSem.of hT hmo (nov := true) (plans := pl3) (f := 1000) ?_
  have hcnt : cnt2 ((lintP m).take i) ≤ (lintP m).length := by
    unfold cnt2
    exact Nat.le_trans (List.length_filter_le _ _) (by rw [List.length_take]; omega)
  have done : ¬ i < (lintP m).length → kont Tryz.prog w0 (tabOf Tryz.prog) 136 [.blk 0, .seq (codeOf Tryz.prog 3 [1, 1, 1, 1, 1, 1, 1])] (wEnd (tabOf Tryz.prog) Tryz.f3 false S.boxes.length fun v _ => v = bool true) (.exit 0)
      [(7, .v (int (i : Int))), (6, .v (int (cnt2 ((lintP m).take i) : Int))), (5, .v (.one xk)), (4, .v (.one xl)), (3, .loc 0 0), (2, .v (bool false))] S6 [(30, m.cs)] := by
    intro hge
    rw [take_all hge, cnt2_lint]
    refine kont.of hT hmo (nov := true) (plans := pl3) (f := 1000) ?_
    rw [x3_0]
    refine ⟨[8, 6, 5, 4, 3, 2], iB m xl xk (freeLP m).length lk.length, lk.length, ⟨rfl, 0, rfl, Nat.zero_le _, rfl⟩, ?_⟩
    rintro mm env S7 L7 ⟨rfl, j, rfl, hj, rfl⟩
    refine WSem.of hT hmo (nov := true) (plans := pl3) (f := 1000) ?_
    rw [b3_1]
    refine ⟨_, hk.len, fun hlt => ?_, fun hge => ?_⟩
    · have hlt := lt_of_dec hlt
      obtain ⟨a, ha⟩ : ∃ a, lk[j]? = some a := ⟨_, List.getElem?_eq_getElem hlt⟩
      refine rdI Nt_len hk ha (j := 0) (by decide) rfl ⟨fun h1 => absurd (eq_of_beq h1) (hno a (List.mem_of_getElem? ha)), fun _ => ⟨by unfold in64; omega, loopK.again (L' := mL m) (m' := lk.length - (j + 1)) ⟨Nat.zero_lt_one, trivial⟩ rfl (by omega) ⟨rfl, j + 1, rfl, hlt, rfl⟩⟩⟩
    · have hge := ge_of_dec hge
      refine loopK.exit (L' := mL m) ⟨Nat.zero_lt_one, trivial⟩ rfl (kont.of hT hmo (nov := true) (plans := pl3) (f := 1000) ?_)
      rw [x3_1]
      refine ⟨_, (FreeNames_c hm).use S7 _, fun xf S8 hR => ?_⟩
      obtain ⟨_, rf, he, hf⟩ := hR
      cases he
      have hfl : (setOf (freeN m)).length ≤ 1000000 := by
        have h1 := free_count g
        have h2 := cnt2_lint m
        have h3 : cnt2 (lintP m) ≤ (lintP m).length := List.length_filter_le _ _
        split at h1 <;> omega
      refine ⟨_, (has_c undB hf hfl).use S8 _, fun b S9 hR => ?_⟩
      obtain ⟨_, he⟩ := hR
      cases he
      have hfc := free_count g
      have hc1 : (freeLP m).length ≤ 1000000 := by omega
      refine ⟨fun hu => ⟨by unfold in64; omega, _, (ShowNotes2_c hl hok).use S9 _, fun s S10 hR => ?_⟩, fun hu => ⟨_, (ShowNotes2_c hl hok).use S9 _, fun s S10 hR => ?_⟩⟩
      · obtain ⟨_, he⟩ := hR
        cases he
        rw [hu, if_pos rfl] at hfc
        refine ⟨[12, 11, 10, 6, 9, 4, 3, 2], iC1 m xl xf (freeLP m).length (showN (lintP m)), (showN (lintP m)).size, ⟨rfl, 0, 0, rfl, Nat.zero_le _, Nat.le_refl _, rfl⟩, ?_⟩
        rintro mm env S11 L11 ⟨rfl, p, q, rfl, hp, hq, rfl⟩
        refine WSem.of hT hmo (nov := true) (plans := pl3) (f := 1000) ?_
        rw [b3_2]
        refine ⟨fun hlt => ?_, fun hge => ?_⟩
        · have hlt := lt_of_dec hlt
          exact ⟨by omega, by omega, fun _ => ⟨by unfold in64; omega, by unfold in64; omega, loopK.again (L' := mL m) (m' := (showN (lintP m)).size - (p + 1)) ⟨Nat.zero_lt_one, trivial⟩ rfl (by omega) ⟨rfl, p + 1, q + 1, rfl, hlt, by omega, rfl⟩⟩,
            fun _ => ⟨by unfold in64; omega, loopK.again (L' := mL m) (m' := (showN (lintP m)).size - (p + 1)) ⟨Nat.zero_lt_one, trivial⟩ rfl (by omega) ⟨rfl, p + 1, q, rfl, hlt, by omega, rfl⟩⟩⟩
        · refine loopK.exit (L' := mL m) ⟨Nat.zero_lt_one, trivial⟩ rfl (kont.of hT hmo (nov := true) (plans := pl3) (f := 1000) ?_)
          rw [x3_2]
          refine ⟨_, hf.len, fun _ => ending hmt g hl _, fun h => ?_⟩
          have : (((freeLP m).length : Int) + 1 == ((setOf (freeN m)).length : Int)) = true := by
            rw [← hfc]
            exact beq_self_eq_true _
          rw [this] at h
          cases h
      · obtain ⟨_, he⟩ := hR
        cases he
        rw [hu, if_neg (by decide), Nat.add_zero] at hfc
        refine ⟨[12, 11, 10, 9, 6, 4, 3, 2], iC2 m xl xf (freeLP m).length (showN (lintP m)), (showN (lintP m)).size, ⟨rfl, 0, 0, rfl, Nat.zero_le _, Nat.le_refl _, rfl⟩, ?_⟩
        rintro mm env S11 L11 ⟨rfl, p, q, rfl, hp, hq, rfl⟩
        refine WSem.of hT hmo (nov := true) (plans := pl3) (f := 1000) ?_
        rw [b3_3]
        refine ⟨fun hlt => ?_, fun hge => ?_⟩
        · have hlt := lt_of_dec hlt
          exact ⟨by omega, by omega, fun _ => ⟨by unfold in64; omega, by unfold in64; omega, loopK.again (L' := mL m) (m' := (showN (lintP m)).size - (p + 1)) ⟨Nat.zero_lt_one, trivial⟩ rfl (by omega) ⟨rfl, p + 1, q + 1, rfl, hlt, by omega, rfl⟩⟩,
            fun _ => ⟨by unfold in64; omega, loopK.again (L' := mL m) (m' := (showN (lintP m)).size - (p + 1)) ⟨Nat.zero_lt_one, trivial⟩ rfl (by omega) ⟨rfl, p + 1, q, rfl, hlt, by omega, rfl⟩⟩⟩
        · refine loopK.exit (L' := mL m) ⟨Nat.zero_lt_one, trivial⟩ rfl (kont.of hT hmo (nov := true) (plans := pl3) (f := 1000) ?_)
          rw [x3_3]
          refine ⟨_, hf.len, fun _ => ending hmt g hl _, fun h => ?_⟩
          have : (((freeLP m).length : Int) == ((setOf (freeN m)).length : Int)) = true := by
            rw [← hfc]
            exact beq_self_eq_true _
          rw [this] at h
          cases h
  obtain ⟨rfl, h0⟩ | ⟨tok, rfl⟩ := id hl
  · rw [b3_0]
    refine ⟨0, rfl, fun hlt => ?_, fun hge => loopK.exit (L' := mL m) ⟨Nat.zero_lt_one, trivial⟩ rfl (done (by rw [h0]; exact Nat.not_lt_zero _))⟩
    have := of_decide_eq_true hlt
    omega
  · exact round0 hlen hcnt (fun b hb h2 => loopK.again (L' := mL m) (m' := (lintP m).length - (i + 1)) ⟨Nat.zero_lt_one, trivial⟩ rfl (by have := (List.getElem?_eq_some_iff.1 hb).1; omega) ⟨rfl, i + 1, by rw [cnt2_next hb, if_pos h2]; rfl, (List.getElem?_eq_some_iff.1 hb).1, rfl⟩)
      (fun b hb h2 => loopK.again (L' := mL m) (m' := (lintP m).length - (i + 1)) ⟨Nat.zero_lt_one, trivial⟩ rfl (by have := (List.getElem?_eq_some_iff.1 hb).1; omega) ⟨rfl, i + 1, by rw [cnt2_next hb, if_neg (by rw [h2]; decide)]; rfl, (List.getElem?_eq_some_iff.1 hb).1, rfl⟩)
      (fun hge => loopK.exit (L' := mL m) ⟨Nat.zero_lt_one, trivial⟩ rfl (done hge))
end Go.Proofs.YtkdickfiifpblaaGreatDoor.D
