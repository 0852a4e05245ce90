/- (the heat treatment is not in this seat) -/
import Derived.Test.YtliddmhifnigdaaDc
