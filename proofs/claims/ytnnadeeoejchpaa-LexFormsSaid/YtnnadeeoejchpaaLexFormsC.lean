/- The functions that 'LexForms' reaches are those of the program. -/
import Derived.Test.YtnnadeeoejchpaaChecked
import Derived.KernelRfl
import Derived.Test.YtnnadeeoejchpaaLexFormsK
set_option linter.all false
namespace Go.Lm.LexForms
open Go.Proofs
noncomputable def lcK : Lc := lcOf [(0, Try.f53, 31948), (1, Try.f228, 67105858)]
theorem c16 : compFn Try.prog Try.f16 5444517870730063657304440508515478392832 0 = k16 := by kernel_rfl
theorem g16 : Good Try.prog lcK 16 k16 := good_fn Try.func16 (by kernel_rfl) (by kernel_rfl) (by kernel_rfl) c16
theorem c47 : compFn Try.prog Try.f47 9223372036854775712 0 = k47 := by kernel_rfl
theorem g47 : Good Try.prog lcK 47 k47 := good_fn Try.func47 (by kernel_rfl) (by kernel_rfl) (by kernel_rfl) c47
theorem c51 : compFn Try.prog Try.f51 68711071778 0 = k51 := by kernel_rfl
theorem g51 : Good Try.prog lcK 51 k51 := good_fn Try.func51 (by kernel_rfl) (by kernel_rfl) (by kernel_rfl) c51
theorem c53 : compFn Try.prog Try.f53 31948 0 = k53 := by kernel_rfl
theorem g53 : Good Try.prog lcK 53 k53 := good_fn1 Try.func53 (by kernel_rfl) (by kernel_rfl) (by kernel_rfl) (by kernel_rfl) (by kernel_rfl) c53
theorem h0 : BodyOk Try.prog lcK 0 b0 := body_ok (fn := Try.f53) (D := 31948) (by kernel_rfl) (by kernel_rfl) (by kernel_rfl) (of_decide_eq_true (by kernel_rfl)) (by kernel_rfl)
theorem c55 : compFn Try.prog Try.f55 151114573403324621504696 1 = k55 := by kernel_rfl
theorem g55 : Good Try.prog lcK 55 k55 := good_fn Try.func55 (by kernel_rfl) (by kernel_rfl) (by kernel_rfl) c55
theorem c96 : compFn Try.prog Try.f96 16642998242 1 = k96 := by kernel_rfl
theorem g96 : Good Try.prog lcK 96 k96 := good_fn Try.func96 (by kernel_rfl) (by kernel_rfl) (by kernel_rfl) c96
theorem c97 : compFn Try.prog Try.f97 158146839465304853973166977538 1 = k97 := by kernel_rfl
theorem g97 : Good Try.prog lcK 97 k97 := good_fn Try.func97 (by kernel_rfl) (by kernel_rfl) (by kernel_rfl) c97
theorem c98 : compFn Try.prog Try.f98 136343669640962 1 = k98 := by kernel_rfl
theorem g98 : Good Try.prog lcK 98 k98 := good_fn Try.func98 (by kernel_rfl) (by kernel_rfl) (by kernel_rfl) c98
theorem c99 : compFn Try.prog Try.f99 32 1 = k99 := by kernel_rfl
theorem g99 : Good Try.prog lcK 99 k99 := good_fn Try.func99 (by kernel_rfl) (by kernel_rfl) (by kernel_rfl) c99
theorem c145 : compFn Try.prog Try.f145 113388 1 = k145 := by kernel_rfl
theorem g145 : Good Try.prog lcK 145 k145 := good_fn Try.func145 (by kernel_rfl) (by kernel_rfl) (by kernel_rfl) c145
theorem c146 : compFn Try.prog Try.f146 70368735787788 1 = k146 := by kernel_rfl
theorem g146 : Good Try.prog lcK 146 k146 := good_fn Try.func146 (by kernel_rfl) (by kernel_rfl) (by kernel_rfl) c146
theorem c147 : compFn Try.prog Try.f147 149796784687608459426828 1 = k147 := by kernel_rfl
theorem g147 : Good Try.prog lcK 147 k147 := good_fn Try.func147 (by kernel_rfl) (by kernel_rfl) (by kernel_rfl) c147
theorem c148 : compFn Try.prog Try.f148 1065151881516 1 = k148 := by kernel_rfl
theorem g148 : Good Try.prog lcK 148 k148 := good_fn Try.func148 (by kernel_rfl) (by kernel_rfl) (by kernel_rfl) c148
theorem c149 : compFn Try.prog Try.f149 35175782121784 1 = k149 := by kernel_rfl
theorem g149 : Good Try.prog lcK 149 k149 := good_fn Try.func149 (by kernel_rfl) (by kernel_rfl) (by kernel_rfl) c149
theorem c150 : compFn Try.prog Try.f150 524282 1 = k150 := by kernel_rfl
theorem g150 : Good Try.prog lcK 150 k150 := good_fn Try.func150 (by kernel_rfl) (by kernel_rfl) (by kernel_rfl) c150
theorem c151 : compFn Try.prog Try.f151 143831514478296140 1 = k151 := by kernel_rfl
theorem g151 : Good Try.prog lcK 151 k151 := good_fn Try.func151 (by kernel_rfl) (by kernel_rfl) (by kernel_rfl) c151
theorem c152 : compFn Try.prog Try.f152 56 1 = k152 := by kernel_rfl
theorem g152 : Good Try.prog lcK 152 k152 := good_fn Try.func152 (by kernel_rfl) (by kernel_rfl) (by kernel_rfl) c152
theorem c153 : compFn Try.prog Try.f153 8046774024 1 = k153 := by kernel_rfl
theorem g153 : Good Try.prog lcK 153 k153 := good_fn Try.func153 (by kernel_rfl) (by kernel_rfl) (by kernel_rfl) c153
theorem c154 : compFn Try.prog Try.f154 2305280042109763084 1 = k154 := by kernel_rfl
theorem g154 : Good Try.prog lcK 154 k154 := good_fn Try.func154 (by kernel_rfl) (by kernel_rfl) (by kernel_rfl) c154
theorem c191 : compFn Try.prog Try.f191 29527900396 1 = k191 := by kernel_rfl
theorem g191 : Good Try.prog lcK 191 k191 := good_fn Try.func191 (by kernel_rfl) (by kernel_rfl) (by kernel_rfl) c191
theorem c192 : compFn Try.prog Try.f192 65260 1 = k192 := by kernel_rfl
theorem g192 : Good Try.prog lcK 192 k192 := good_fn Try.func192 (by kernel_rfl) (by kernel_rfl) (by kernel_rfl) c192
theorem c193 : compFn Try.prog Try.f193 262136 1 = k193 := by kernel_rfl
theorem g193 : Good Try.prog lcK 193 k193 := good_fn Try.func193 (by kernel_rfl) (by kernel_rfl) (by kernel_rfl) c193
theorem c194 : compFn Try.prog Try.f194 8589919186 1 = k194 := by kernel_rfl
theorem g194 : Good Try.prog lcK 194 k194 := good_fn Try.func194 (by kernel_rfl) (by kernel_rfl) (by kernel_rfl) c194
theorem c195 : compFn Try.prog Try.f195 234 1 = k195 := by kernel_rfl
theorem g195 : Good Try.prog lcK 195 k195 := good_fn Try.func195 (by kernel_rfl) (by kernel_rfl) (by kernel_rfl) c195
theorem c196 : compFn Try.prog Try.f196 68685856324 1 = k196 := by kernel_rfl
theorem g196 : Good Try.prog lcK 196 k196 := good_fn Try.func196 (by kernel_rfl) (by kernel_rfl) (by kernel_rfl) c196
theorem c212 : compFn Try.prog Try.f212 16235756 1 = k212 := by kernel_rfl
theorem g212 : Good Try.prog lcK 212 k212 := good_fn Try.func212 (by kernel_rfl) (by kernel_rfl) (by kernel_rfl) c212
theorem c213 : compFn Try.prog Try.f213 2 1 = k213 := by kernel_rfl
theorem g213 : Good Try.prog lcK 213 k213 := good_fn Try.func213 (by kernel_rfl) (by kernel_rfl) (by kernel_rfl) c213
theorem c214 : compFn Try.prog Try.f214 151041940476049204214924 1 = k214 := by kernel_rfl
theorem g214 : Good Try.prog lcK 214 k214 := good_fn Try.func214 (by kernel_rfl) (by kernel_rfl) (by kernel_rfl) c214
theorem c215 : compFn Try.prog Try.f215 226821453428880667704844 1 = k215 := by kernel_rfl
theorem g215 : Good Try.prog lcK 215 k215 := good_fn Try.func215 (by kernel_rfl) (by kernel_rfl) (by kernel_rfl) c215
theorem c216 : compFn Try.prog Try.f216 27674608719387033100 1 = k216 := by kernel_rfl
theorem g216 : Good Try.prog lcK 216 k216 := good_fn Try.func216 (by kernel_rfl) (by kernel_rfl) (by kernel_rfl) c216
theorem c222 : compFn Try.prog Try.f222 70368605765388 1 = k222 := by kernel_rfl
theorem g222 : Good Try.prog lcK 222 k222 := good_fn Try.func222 (by kernel_rfl) (by kernel_rfl) (by kernel_rfl) c222
theorem c223 : compFn Try.prog Try.f223 17179803404 1 = k223 := by kernel_rfl
theorem g223 : Good Try.prog lcK 223 k223 := good_fn Try.func223 (by kernel_rfl) (by kernel_rfl) (by kernel_rfl) c223
theorem c228 : compFn Try.prog Try.f228 67105858 1 = k228 := by kernel_rfl
theorem g228 : Good Try.prog lcK 228 k228 := good_fn1 Try.func228 (by kernel_rfl) (by kernel_rfl) (by kernel_rfl) (by kernel_rfl) (by kernel_rfl) c228
theorem h1 : BodyOk Try.prog lcK 1 b1 := body_ok (fn := Try.f228) (D := 67105858) (by kernel_rfl) (by kernel_rfl) (by kernel_rfl) (of_decide_eq_true (by kernel_rfl)) (by kernel_rfl)
theorem c229 : compFn Try.prog Try.f229 17146314508 2 = k229 := by kernel_rfl
theorem g229 : Good Try.prog lcK 229 k229 := good_fn Try.func229 (by kernel_rfl) (by kernel_rfl) (by kernel_rfl) c229
theorem c230 : compFn Try.prog Try.f230 234 2 = k230 := by kernel_rfl
theorem g230 : Good Try.prog lcK 230 k230 := good_fn Try.func230 (by kernel_rfl) (by kernel_rfl) (by kernel_rfl) c230
theorem c232 : compFn Try.prog Try.f232 8 2 = k232 := by kernel_rfl
theorem g232 : Good Try.prog lcK 232 k232 := good_fn Try.func232 (by kernel_rfl) (by kernel_rfl) (by kernel_rfl) c232
theorem c233 : compFn Try.prog Try.f233 236 2 = k233 := by kernel_rfl
theorem g233 : Good Try.prog lcK 233 k233 := good_fn Try.func233 (by kernel_rfl) (by kernel_rfl) (by kernel_rfl) c233
theorem c234 : compFn Try.prog Try.f234 2199022730948 2 = k234 := by kernel_rfl
theorem g234 : Good Try.prog lcK 234 k234 := good_fn Try.func234 (by kernel_rfl) (by kernel_rfl) (by kernel_rfl) c234
theorem c235 : compFn Try.prog Try.f235 236 2 = k235 := by kernel_rfl
theorem g235 : Good Try.prog lcK 235 k235 := good_fn Try.func235 (by kernel_rfl) (by kernel_rfl) (by kernel_rfl) c235
theorem g236 : Good Try.prog lcK 236 k236 := .inr (extern_index Try.func236 (by kernel_rfl) (by kernel_rfl) (by kernel_rfl) (by kernel_rfl))
theorem fnsOk : FnsOk Try.prog lcK fnsK := ((((((((((((((((((((((((((((((((((((((((FnsOk.nil.set g16).set g47).set g51).set g53).set g55).set g96).set g97).set g98).set g99).set g145).set g146).set g147).set g148).set g149).set g150).set g151).set g152).set g153).set g154).set g191).set g192).set g193).set g194).set g195).set g196).set g212).set g213).set g214).set g215).set g216).set g222).set g223).set g228).set g229).set g230).set g232).set g233).set g234).set g235).set g236)
theorem bodiesOk : BodiesOk Try.prog lcK bodiesK := ((BodiesOk.nil.set h0).set h1)
theorem prgOk : PrgOk Try.prog lcK prgK := ⟨fnsOk, bodiesOk⟩
theorem mixed : Try.prog.follows .mixedOrders = true := by kernel_rfl
end Go.Lm.LexForms
